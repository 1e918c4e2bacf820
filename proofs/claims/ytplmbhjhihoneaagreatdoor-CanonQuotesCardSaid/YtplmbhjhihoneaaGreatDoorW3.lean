/- The rules as a set. -/
import Derived.Test.YtplmbhjhihoneaaGreatDoorW2
import Derived.Test.YtplmbhjhihoneaaGreatDoorChecked
import Derived.Deep.DeepHandedRow
import Derived.Lib.LaidTab
import Derived.Lib.LaidU8
import Derived.ChangeSame
import Derived.ChangeStays
import Derived.ChangeMaps5
import Derived.OpenShut
section
set_option linter.unusedSimpArgs false
set_option linter.unusedVariables false
namespace Go.Proofs.YtplmbhjhihoneaaGreatDoor.V
open Go
attribute [go_sem ↓] c_skip
attribute [go_sem ↓] c_seq
attribute [go_sem ↓] c_cond
attribute [go_sem ↓] c_block
attribute [go_sem ↓] c_exit
attribute [go_sem ↓] c_ret
attribute [go_sem ↓] c_region
attribute [go_sem ↓] c_draw
attribute [go_sem ↓] c_loop
attribute [go_sem ↓] ex_normal
attribute [go_sem ↓] ex_exit
attribute [go_sem ↓] ex_ret
attribute [go_sem ↓] in_normal
attribute [go_sem ↓] in_exit
attribute [go_sem ↓] in_ret
attribute [go_sem ↓] b_ret
attribute [go_sem ↓] b_normal
attribute [go_sem ↓] o_nil
attribute [go_sem ↓] o_cons
attribute [go_sem ↓] o_guard
attribute [go_sem ↓] d_nil
attribute [go_sem ↓] d_cons
attribute [go_sem ↓] d_guard
attribute [go_sem ↓] gv_zero
attribute [go_sem ↓] gv_succ
attribute [go_sem ↓] kn_zero
attribute [go_sem ↓] kn_succ
attribute [go_sem ↓] op_move
attribute [go_sem ↓] op_assign
attribute [go_sem ↓] op_pick
attribute [go_sem ↓] op_bin
attribute [go_sem ↓] op_un
attribute [go_sem ↓] op_conv
attribute [go_sem ↓] op_extract
attribute [go_sem ↓] op_indexAddr
attribute [go_sem ↓] op_index
attribute [go_sem ↓] op_load
attribute [go_sem ↓] op_slice
attribute [go_sem ↓] op_fieldAddr
attribute [go_sem ↓] op_field
attribute [go_sem ↓] op_build
attribute [go_sem ↓] op_buildSlice
attribute [go_sem ↓] op_box
attribute [go_sem ↓] op_alloc
attribute [go_sem ↓] op_store
attribute [go_sem ↓] op_callv
attribute [go_sem ↓] op_callb
attribute [go_sem ↓] od_move
attribute [go_sem ↓] od_assign
attribute [go_sem ↓] od_pick
attribute [go_sem ↓] od_bin
attribute [go_sem ↓] od_un
attribute [go_sem ↓] od_conv
attribute [go_sem ↓] od_extract
attribute [go_sem ↓] od_indexAddr
attribute [go_sem ↓] od_index
attribute [go_sem ↓] od_load
attribute [go_sem ↓] od_slice
attribute [go_sem ↓] od_fieldAddr
attribute [go_sem ↓] od_field
attribute [go_sem ↓] od_build
attribute [go_sem ↓] od_buildSlice
attribute [go_sem ↓] od_box
attribute [go_sem ↓] od_callv
attribute [go_sem ↓] od_callb
attribute [go_sem ↓] call_fn0
attribute [go_sem ↓] call_fn
attribute [go_sem ↓] calld_fn0
attribute [go_sem ↓] b_len
attribute [go_sem ↓] b_append
attribute [go_sem ↓] bd_len
attribute [go_sem ↓] put_some
attribute [go_sem ↓] put_none
attribute [go_sem ↓] ev_tmp
attribute [go_sem ↓] ev_const
attribute [go_sem ↓] ev_func
attribute [go_sem ↓] get_cons
attribute [go_sem ↓] lift_some
attribute [go_sem ↓] lift_none
attribute [go_sem ↓] liftD_some
attribute [go_sem ↓] liftD_none
attribute [go_sem ↓] ev_global
attribute [go_sem ↓] oe_move
attribute [go_sem ↓] oe_assign
attribute [go_sem ↓] oe_pick
attribute [go_sem ↓] oe_unOp
attribute [go_sem ↓] oe_convert
attribute [go_sem ↓] oe_extract
attribute [go_sem ↓] oe_indexAddr
attribute [go_sem ↓] oe_index
attribute [go_sem ↓] oe_load
attribute [go_sem ↓] oe_slice
attribute [go_sem ↓] oe_fieldAddr
attribute [go_sem ↓] oe_field
attribute [go_sem ↓] oe_build
attribute [go_sem ↓] oe_buildSlice
attribute [go_sem ↓] oe_box
attribute [go_sem ↓] oe_alloc
attribute [go_sem ↓] oe_store
attribute [go_sem ↓] oe_nilCheck
attribute [go_sem ↓] oe_makeFunc
attribute [go_sem ↓] oe_makeInterface
attribute [go_sem ↓] oe_binOp
attribute [go_sem ↓] oe_callv
attribute [go_sem ↓] oe_len
attribute [go_sem ↓] oe_cap
attribute [go_sem ↓] oe_min
attribute [go_sem ↓] oe_max
attribute [go_sem ↓] oe_copy
attribute [go_sem ↓] oe_append
attribute [go_sem ↓] nx_move
attribute [go_sem ↓] nx_assign
attribute [go_sem ↓] nx_pick
attribute [go_sem ↓] nx_unOp
attribute [go_sem ↓] nx_extract
attribute [go_sem ↓] nx_indexAddr
attribute [go_sem ↓] nx_index
attribute [go_sem ↓] nx_slice
attribute [go_sem ↓] nx_fieldAddr
attribute [go_sem ↓] nx_field
attribute [go_sem ↓] nx_build
attribute [go_sem ↓] nx_nilCheck
attribute [go_sem ↓] nx_makeFunc
attribute [go_sem ↓] nx_makeInterface
attribute [go_sem ↓] nx_binOp
attribute [go_sem ↓] nx_len
attribute [go_sem ↓] nx_cap
attribute [go_sem ↓] nx_min
attribute [go_sem ↓] nx_max
attribute [go_sem ↓] nx_store
attribute [go_sem ↓] nx_alloc
attribute [go_sem ↓] nx_append
attribute [go_sem ↓] nx_copy
attribute [go_sem ↓] nx_load
attribute [go_sem ↓] nx_box
attribute [go_sem ↓] nx_buildSlice
attribute [go_sem ↓] nx_convert
attribute [go_sem ↓] nx_callv
attribute [go_sem ↓] oe_sliceData oe_string nx_sliceData nx_string b_sliceData b_string bd_sliceData bd_string
attribute [go_sem ↓] b_strobj op_makeSlice oe_makeSlice nx_makeSlice
attribute [go_sem] qSliceData qString vcMake vcStrObj
attribute [go_sem ↓] st_nil st_cons wa_nil wa_cons
attribute [go_sem ↓] op_nilCheck op_makeFunc op_makeInterface od_nilCheck od_makeFunc od_makeInterface new_none new_some b_cap b_min b_max b_copy bd_cap bd_min bd_max ap_sl ap_mrow ap_msl
attribute [go_sem] nc_tmp nc_glob nc_func nc_int nc_bool nc_str nc_ptr nc_iface nc_nfunc nc_map nc_nil of_ptr of_niface of_nfunc of_nmap
attribute [go_sem] vcAppendM vcAppendR vcAppendZ vcCopy copySrc vcBuildM vcNil qNil qLeast qCap qIface mintNil bufOf notMsl tokTy_grow okTy_none okTy_some AObj.cells.injEq Shape.one.injEq
attribute [go_sem ↓] ch_nil
attribute [go_sem ↓] ch_cons
attribute [go_sem ↓] ch_guard
attribute [go_sem ↓] kept_cons
attribute [go_sem 100] fdiv_pos
attribute [go_sem] tdiv_pos tmod_pos u8_and63 u8_and31 u8_and15 u8_and7 u8_or128 u8_or192 u8_or224 u8_or240
attribute [go_sem] i32_or6 i32_or12 i32_or18 acc0 acc1 acc2 acc3 acc4
attribute [go_sem] sameBin isConst
attribute [go_sem] h_at0 h_atk h_set0 h_setk h_left h_setl kept_nil fin_eq finL_some rl_nil rl_cons rlCons_some r_tmp r_cell rt_one rt_two rt_nil get_cons' get_nil of_int of_bool of_str of_nil vcGuard_u undef vcGuard_tt vcGuard_ff vcGuard_tf vcGuard_ft vcGuard_b vcGuard_b' vcIf_true
attribute [go_sem] vcIf_false vcIf_bool decide_eq_true_eq decide_eq_false_iff_not Bool.not_eq_true' Bool.not_eq_false' Decidable.not_not Int.not_lt Int.not_le initEnv qTrue qPick qUn' qUn qLen' qLen qExtract qBox qBin isShift intBin intShift strBin boolBin qIndexAddr
attribute [go_sem] qIndex qLoad okLoad okGet getPart qSlice numOr evO qFieldAddr qField qConv qBuild qBuildSlice evParts afill aset regroup flat_agg flat_lit flat_str flat_sl flat_ip flat_mp flat_msl flat_mrow flat_fn flat_ifc flat_data flat_err flat_any flat_tup okv_agg okv_lit okv_str okv_sl okv_ip okv_mp okv_msl okv_mrow okv_fn okv_ifc okv_data okv_err okv_any okv_tup AV.scalar Value.oneCell' TK.agg known srcKind
attribute [go_sem] app_bytes app_runes canAppend Array.size_empty Option.some.injEq AObj.grow.injEq drop_bytes take_bytes take_len getD_drop' List.drop_drop List.length_drop List.length_take min_left fdiv_nat bits_u8 bits_u16 bits_u32 bits_u64 bits_i8 bits_i16 bits_i32 bits_i64 List.getD_cons_zero List.getD_cons_succ
attribute [go_sem 100] zeroFlat_unf
attribute [go_sem] pow10AV_len pow10_at
attribute [go_sem] List.set_cons_zero List.set_cons_succ Int.cast_ofNat_Int List.nil_append List.append_nil List.cons_append byte_lt byte_lt' byte_ge firstAV_len first_at acceptAV_len accept_at take_all isBytes_eq unbytes_map getD_bytes getD_runes byte_u8 byte_i32 byte_i64 byte_u32 byte_u64 getD_left h_set
attribute [go_sem] List.length_map List.length_append List.length_replicate List.append_assoc IntWalk.i64_in IntWalk.i32_in IntWalk.u8_in IntWalk.u32_in IntWalk.u64_in vcAppend vcStore vcMut vcBytes qConvH List.contains_nil List.contains_cons Option.getD_some Option.getD_none Bool.or_false Bool.false_or Bool.or_true Bool.true_or beq_self_eq_true srcAV appRes
attribute [go_sem] Option.map_some Option.map_none Option.isSome_some Option.isSome_none List.map_cons List.map_nil List.toList_toArray List.getElem?_cons_zero List.getElem?_cons_succ List.all_cons List.all_nil Bool.and_self Bool.and_true Bool.true_and Bool.not_true Bool.not_false true_and and_true false_and and_false ne_eq not_true_eq_false not_false_eq_true if_true if_false
attribute [go_sem] Bool.false_eq_true forall_const eq_self decide_true decide_false true_implies implies_true false_implies ite_self Nat.zero_add Nat.mul_one List.drop_zero Int.toNat_natCast Int.toNat_zero Int.toNat_one List.length_cons List.length_nil List.range_succ List.range_zero
theorem vcI {p q a b : Prop} [Tag a] [Tag b] (h : p → a) (k : q → b) : (p → Hold a) ∧ (q → Hold b) := ⟨fun x => unhold (h x), fun x => unhold (k x)⟩
theorem ll1 {α β : Type} {f : α → β} {l : List α} : (l.map f).length = l.length := List.length_map f
theorem ll2 {α : Type} {l m : List α} : (l ++ m).length = l.length + m.length := List.length_append
theorem ll3 {α : Type} {a : α} {l : List α} : (a :: l).length = l.length + 1 := rfl
theorem ll4 {α : Type} : ([] : List α).length = 0 := rfl
theorem ll5 {α : Type} {n : Nat} {a : α} : (List.replicate n a).length = n := List.length_replicate
theorem ll6 {α : Type} {n : Nat} {l : List α} : (l.drop n).length = l.length - n := List.length_drop
theorem ll7 {α : Type} {n : Nat} {l : List α} : (l.take n).length = min n l.length := List.length_take
theorem ll8 {α : Type} {n : Nat} {l : List α} {a : α} : (l.set n a).length = l.length := List.length_set
theorem vcA {p q : Prop} (h : p) (k : q) : p ∧ q := ⟨h, k⟩
theorem env_ok {a b : Env} (h : EnvLe a b := by repeat (first | exact envLe_nil | (refine envLe_cons ?_ ?_; focus (first | exact Le.refl _ | exact Le.any _ | exact le_sh | exact le_nil | (refine le_tup ?_; repeat (first | exact LeAll.nil | (refine LeAll.cons ?_ ?_; focus (first | exact Le.refl _ | exact Le.any _ | exact le_sh | exact le_nil)))) | (refine le_agg ?_; repeat (first | exact LeAll.nil | (refine LeAll.cons ?_ ?_; focus (first | exact Le.refl _ | exact Le.any _ | exact le_sh | exact le_nil)))) | (refine le_eq ?_; simp -implicitDefEqProofs (disch := omega) only [get_cons, get_nil, if_true, if_false, ↓reduceIte, Nat.reduceEqDiff, eq_self, IntWalk.i64_in, IntWalk.i32_in, IntWalk.u8_in, IntWalk.u32_in, IntWalk.u64_in, reduceCtorEq]; try (first | rfl | (refine int_eq ?_; omega))))))) : EnvLe a b := h
attribute [go_sem] Nat.reducePow Int.reducePow Nat.reduceDiv Nat.reduceBEq Nat.reduceEqDiff Nat.reduceLT Nat.reduceLeDiff Nat.reduceAdd Nat.reduceSub Nat.reduceMul Nat.reduceMod Int.reduceToNat Int.reduceNeg Int.reduceAdd Int.reduceSub Int.reduceMul Int.reduceDiv Int.reduceMod Int.reduceLT Int.reduceLE Int.reduceEq reduceCtorEq
attribute [go_sem ↓] reduceIte
end Go.Proofs.YtplmbhjhihoneaaGreatDoor.V
end

section
set_option linter.unusedSimpArgs false
set_option linter.unusedVariables false
namespace Go.Proofs.YtplmbhjhihoneaaGreatDoor.V
open Go
def tbl : List LT := [
  ltOther,
  ⟨.one, 1, 8, [.lit .nilFunc]⟩,
  ⟨.int .i64, 1, 8, [.lit (.int .i64 0)]⟩,
  ⟨.int .i64, 1, 8, [.lit (.int .i64 0)]⟩,
  ⟨.bool, 1, 1, [.lit (.bool false)]⟩,
  ⟨.int .u8, 1, 1, [.lit (.int .u8 0)]⟩,
  ⟨.int .u8, 1, 1, [.lit (.int .u8 0)]⟩,
  ⟨.struct [(0, 2), (1, 3), (2, 4), (3, 6)], 4, 24, [.lit (.int .i64 0), .lit (.int .i64 0), .lit (.bool false), .lit (.int .u8 0)]⟩,
  ⟨.struct [(0, 2), (1, 3), (2, 4), (3, 6)], 4, 24, [.lit (.int .i64 0), .lit (.int .i64 0), .lit (.bool false), .lit (.int .u8 0)]⟩,
  ⟨.str, 1, 16, [.str []]⟩,
  ⟨.str, 1, 16, [.str []]⟩,
  ⟨.str, 1, 16, [.str []]⟩,
  ⟨.int .u64, 1, 8, [.lit (.int .u64 0)]⟩,
  ⟨.struct [(0, 9), (1, 12)], 2, 24, [.str [], .lit (.int .u64 0)]⟩,
  ⟨.struct [(0, 9), (1, 12)], 2, 24, [.str [], .lit (.int .u64 0)]⟩,
  ⟨.ptr 188, 1, 8, [.lit (.pointer none)]⟩,
  ⟨.ptr 191, 1, 8, [.lit (.pointer none)]⟩,
  ⟨.ptr 198, 1, 8, [.lit (.pointer none)]⟩,
  ⟨.struct [(0, 17)], 1, 8, [.lit (.pointer none)]⟩,
  ⟨.struct [(0, 17)], 1, 8, [.lit (.pointer none)]⟩,
  ⟨.iface, 1, 16, [.lit .nilIface]⟩,
  ⟨.int .i32, 1, 4, [.lit (.int .i32 0)]⟩,
  ⟨.one, 1, 8, [.lit .nilFunc]⟩,
  ⟨.one, 1, 8, [.lit .nilFunc]⟩,
  ⟨.slice 9, 1, 24, [.sl .full 0 []]⟩,
  ⟨.slice 27, 1, 24, [.sl .full 0 []]⟩,
  ⟨.struct [(0, 3), (1, 3), (2, 9), (3, 24), (4, 25)], 5, 80, [.lit (.int .i64 0), .lit (.int .i64 0), .str [], .sl .full 0 [], .sl .full 0 []]⟩,
  ⟨.struct [(0, 3), (1, 3), (2, 9), (3, 24), (4, 25)], 5, 80, [.lit (.int .i64 0), .lit (.int .i64 0), .str [], .sl .full 0 [], .sl .full 0 []]⟩,
  ⟨.int .i64, 1, 8, [.lit (.int .i64 0)]⟩,
  ltOther,
  ⟨.one, 1, 8, [.lit .nilFunc]⟩,
  ⟨.one, 1, 8, [.lit .nilFunc]⟩,
  ⟨.one, 1, 8, [.lit .nilFunc]⟩,
  ⟨.one, 1, 8, [.lit .nilFunc]⟩,
  ⟨.one, 1, 8, [.lit .nilFunc]⟩,
  ⟨.one, 1, 8, [.lit .nilFunc]⟩,
  ⟨.slice 39, 1, 24, [.sl .full 0 []]⟩,
  ⟨.one, 1, 8, [.lit .nilFunc]⟩,
  ⟨.struct [(0, 9), (1, 27)], 6, 96, [.str [], .lit (.int .i64 0), .lit (.int .i64 0), .str [], .sl .full 0 [], .sl .full 0 []]⟩,
  ⟨.struct [(0, 9), (1, 27)], 6, 96, [.str [], .lit (.int .i64 0), .lit (.int .i64 0), .str [], .sl .full 0 [], .sl .full 0 []]⟩,
  ⟨.one, 1, 8, [.lit .nilFunc]⟩,
  ⟨.one, 1, 8, [.lit .nilFunc]⟩,
  ⟨.one, 1, 8, [.lit .nilFunc]⟩,
  ⟨.one, 1, 8, [.lit .nilFunc]⟩,
  ⟨.one, 1, 8, [.lit .nilFunc]⟩,
  ⟨.arr 2 9, 2, 32, [.str [], .str []]⟩,
  ltOther,
  ⟨.one, 1, 8, [.lit .nilFunc]⟩,
  ⟨.one, 1, 8, [.lit .nilFunc]⟩,
  ltOther,
  ⟨.one, 1, 8, [.lit .nilFunc]⟩,
  ⟨.one, 1, 8, [.lit .nilFunc]⟩,
  ⟨.one, 1, 8, [.lit .nilFunc]⟩,
  ⟨.one, 1, 8, [.lit .nilFunc]⟩,
  ⟨.slice 5, 1, 24, [.sl .full 0 []]⟩,
  ⟨.ptr 59, 1, 8, [.lit (.pointer none)]⟩,
  ⟨.struct [(0, 9), (1, 3)], 2, 24, [.str [], .lit (.int .i64 0)]⟩,
  ⟨.struct [(0, 9), (1, 3)], 2, 24, [.str [], .lit (.int .i64 0)]⟩,
  ⟨.struct [(0, 57), (2, 28)], 3, 32, [.str [], .lit (.int .i64 0), .lit (.int .i64 0)]⟩,
  ⟨.struct [(0, 57), (2, 28)], 3, 32, [.str [], .lit (.int .i64 0), .lit (.int .i64 0)]⟩,
  ⟨.one, 1, 8, [.lit .nilFunc]⟩,
  ⟨.one, 1, 8, [.lit .nilFunc]⟩,
  ltOther,
  ⟨.one, 1, 8, [.lit .nilFunc]⟩,
  ⟨.one, 1, 8, [.lit .nilFunc]⟩,
  ⟨.one, 1, 8, [.lit .nilFunc]⟩,
  ⟨.one, 1, 8, [.lit .nilFunc]⟩,
  ⟨.one, 1, 8, [.lit .nilFunc]⟩,
  ⟨.one, 1, 8, [.lit .nilFunc]⟩,
  ⟨.ptr 71, 1, 8, [.lit (.pointer none)]⟩,
  ⟨.struct [(0, 69), (1, 54)], 2, 32, [.lit (.pointer none), .sl .full 0 []]⟩,
  ⟨.struct [(0, 69), (1, 54)], 2, 32, [.lit (.pointer none), .sl .full 0 []]⟩,
  ⟨.struct [(0, 71)], 2, 32, [.lit (.pointer none), .sl .full 0 []]⟩,
  ⟨.struct [(0, 71)], 2, 32, [.lit (.pointer none), .sl .full 0 []]⟩,
  ⟨.one, 1, 8, [.lit .nilFunc]⟩,
  ⟨.one, 1, 8, [.lit .nilFunc]⟩,
  ⟨.one, 1, 8, [.lit .nilFunc]⟩,
  ⟨.one, 1, 8, [.lit .nilFunc]⟩,
  ⟨.one, 1, 8, [.lit .nilFunc]⟩,
  ⟨.one, 1, 8, [.lit .nilFunc]⟩,
  ⟨.one, 1, 8, [.lit .nilFunc]⟩,
  ⟨.one, 1, 8, [.lit .nilFunc]⟩,
  ⟨.ptr 57, 1, 8, [.lit (.pointer none)]⟩,
  ⟨.one, 1, 8, [.lit .nilFunc]⟩,
  ⟨.slice 21, 1, 24, [.sl .full 0 []]⟩,
  ltOther,
  ⟨.one, 1, 8, [.lit .nilFunc]⟩,
  ⟨.one, 1, 8, [.lit .nilFunc]⟩,
  ltOther,
  ⟨.one, 1, 8, [.lit .nilFunc]⟩,
  ltOther,
  ⟨.one, 1, 8, [.lit .nilFunc]⟩,
  ⟨.one, 1, 8, [.lit .nilFunc]⟩,
  ltOther,
  ⟨.one, 1, 8, [.lit .nilFunc]⟩,
  ⟨.one, 1, 8, [.lit .nilFunc]⟩,
  ⟨.one, 1, 8, [.lit .nilFunc]⟩,
  ⟨.one, 1, 8, [.lit .nilFunc]⟩,
  ⟨.one, 1, 8, [.lit .nilFunc]⟩,
  ⟨.one, 1, 8, [.lit .nilFunc]⟩,
  ⟨.one, 1, 8, [.lit .nilFunc]⟩,
  ⟨.one, 1, 8, [.lit .nilFunc]⟩,
  ⟨.ptr 73, 1, 8, [.lit (.pointer none)]⟩,
  ⟨.iface, 1, 16, [.lit .nilIface]⟩,
  ⟨.iface, 1, 16, [.lit .nilIface]⟩,
  ltOther,
  ⟨.one, 1, 8, [.lit .nilFunc]⟩,
  ⟨.one, 1, 8, [.lit .nilFunc]⟩,
  ⟨.one, 1, 8, [.lit .nilFunc]⟩,
  ⟨.ptr 5, 1, 8, [.lit (.pointer none)]⟩,
  ⟨.one, 1, 8, [.lit .nilFunc]⟩,
  ⟨.int .u64, 1, 8, [.lit (.int .u64 0)]⟩,
  ⟨.one, 1, 8, [.lit .nilFunc]⟩,
  ⟨.arr 256 5, 256, 256, List.replicate 256 (.lit (.int .u8 0))⟩,
  ⟨.struct [(0, 5), (1, 5)], 2, 2, [.lit (.int .u8 0), .lit (.int .u8 0)]⟩,
  ⟨.struct [(0, 5), (1, 5)], 2, 2, [.lit (.int .u8 0), .lit (.int .u8 0)]⟩,
  ⟨.arr 16 115, 32, 32, List.replicate 32 (.lit (.int .u8 0))⟩,
  ⟨.one, 1, 8, [.lit .nilFunc]⟩,
  ⟨.one, 1, 8, [.lit .nilFunc]⟩,
  ltOther,
  ⟨.one, 1, 8, [.lit .nilFunc]⟩,
  ltOther,
  ⟨.one, 1, 8, [.lit .nilFunc]⟩,
  ⟨.one, 1, 8, [.lit .nilFunc]⟩,
  ⟨.one, 1, 8, [.lit .nilFunc]⟩,
  ⟨.one, 1, 8, [.lit .nilFunc]⟩,
  ⟨.one, 1, 8, [.lit .nilFunc]⟩,
  ⟨.int .u64, 1, 8, [.lit (.int .u64 0)]⟩,
  ltOther,
  ⟨.one, 1, 8, [.lit .nilFunc]⟩,
  ⟨.one, 1, 8, [.lit .nilFunc]⟩,
  ⟨.one, 1, 8, [.lit .nilFunc]⟩,
  ⟨.one, 1, 8, [.lit .nilFunc]⟩,
  ⟨.one, 1, 8, [.lit .nilFunc]⟩,
  ⟨.one, 1, 8, [.lit .nilFunc]⟩,
  ltOther,
  ⟨.one, 1, 8, [.lit .nilFunc]⟩,
  ⟨.uptr, 1, 8, [.lit (.pointer none)]⟩,
  ⟨.one, 1, 8, [.lit .nilFunc]⟩,
  ⟨.one, 1, 8, [.lit .nilFunc]⟩,
  ⟨.one, 1, 8, [.lit .nilFunc]⟩,
  ltOther,
  ⟨.one, 1, 8, [.lit .nilFunc]⟩,
  ⟨.one, 1, 8, [.lit .nilFunc]⟩,
  ⟨.one, 1, 8, [.lit .nilFunc]⟩,
  ⟨.int .i64, 1, 8, [.lit (.int .i64 0)]⟩,
  ⟨.ptr 167, 1, 8, [.lit (.pointer none)]⟩,
  ⟨.one, 1, 8, [.lit .nilFunc]⟩,
  ⟨.one, 1, 8, [.lit .nilFunc]⟩,
  ⟨.one, 1, 8, [.lit .nilFunc]⟩,
  ⟨.one, 1, 8, [.lit .nilFunc]⟩,
  ⟨.one, 1, 8, [.lit .nilFunc]⟩,
  ⟨.arr 24 5, 24, 24, List.replicate 24 (.lit (.int .u8 0))⟩,
  ⟨.one, 1, 8, [.lit .nilFunc]⟩,
  ⟨.one, 1, 8, [.lit .nilFunc]⟩,
  ltOther,
  ⟨.one, 1, 8, [.lit .nilFunc]⟩,
  ⟨.one, 1, 8, [.lit .nilFunc]⟩,
  ⟨.arr 256 4, 256, 256, List.replicate 256 (.lit (.bool false))⟩,
  ⟨.arr 256 4, 256, 256, List.replicate 256 (.lit (.bool false))⟩,
  ltOther,
  ⟨.one, 1, 8, [.lit .nilFunc]⟩,
  ⟨.one, 1, 8, [.lit .nilFunc]⟩,
  ⟨.ptr 159, 1, 8, [.lit (.pointer none)]⟩,
  ⟨.int .u32, 1, 4, [.lit (.int .u32 0)]⟩,
  ⟨.one, 1, 8, [.lit .nilFunc]⟩,
  ⟨.struct [(0, 9), (1, 9), (2, 104)], 3, 48, [.str [], .str [], .lit .nilIface]⟩,
  ⟨.struct [(0, 9), (1, 9), (2, 104)], 3, 48, [.str [], .str [], .lit .nilIface]⟩,
  ⟨.one, 1, 8, [.lit .nilFunc]⟩,
  ⟨.one, 1, 8, [.lit .nilFunc]⟩,
  ⟨.one, 1, 8, [.lit .nilFunc]⟩,
  ⟨.arr 20 127, 20, 160, List.replicate 20 (.lit (.int .u64 0))⟩,
  ⟨.arr 65 5, 65, 65, List.replicate 65 (.lit (.int .u8 0))⟩,
  ⟨.one, 1, 8, [.lit .nilFunc]⟩,
  ⟨.one, 1, 8, [.lit .nilFunc]⟩,
  ⟨.one, 1, 8, [.lit .nilFunc]⟩,
  ltOther,
  ⟨.one, 1, 8, [.lit .nilFunc]⟩,
  ⟨.one, 1, 8, [.lit .nilFunc]⟩,
  ⟨.ptr 181, 1, 8, [.lit (.pointer none)]⟩,
  ⟨.struct [(0, 9)], 1, 16, [.str []]⟩,
  ⟨.struct [(0, 9)], 1, 16, [.str []]⟩,
  ⟨.one, 1, 8, [.lit .nilFunc]⟩,
  ⟨.one, 1, 8, [.lit .nilFunc]⟩,
  ⟨.arr 32 5, 32, 32, List.replicate 32 (.lit (.int .u8 0))⟩,
  ⟨.arr 64 5, 64, 64, List.replicate 64 (.lit (.int .u8 0))⟩,
  ⟨.one, 1, 8, [.lit .nilFunc]⟩,
  ⟨.struct [(0, 17), (1, 17), (2, 17), (3, 9)], 4, 40, [.lit (.pointer none), .lit (.pointer none), .lit (.pointer none), .str []]⟩,
  ⟨.struct [(0, 17), (1, 17), (2, 17), (3, 9)], 4, 40, [.lit (.pointer none), .lit (.pointer none), .lit (.pointer none), .str []]⟩,
  ⟨.arr 0 16, 0, 0, []⟩,
  ⟨.struct [(0, 189)], 0, 0, []⟩,
  ⟨.struct [(0, 189)], 0, 0, []⟩,
  ⟨.int .u8, 1, 1, [.lit (.int .u8 0)]⟩,
  ⟨.int .u8, 1, 1, [.lit (.int .u8 0)]⟩,
  ⟨.one, 1, 8, [.lit .nilFunc]⟩,
  ⟨.int .i32, 1, 4, [.lit (.int .i32 0)]⟩,
  ⟨.int .i32, 1, 4, [.lit (.int .i32 0)]⟩,
  ⟨.struct [(0, 12), (1, 12), (2, 164), (3, 192), (4, 5), (5, 5), (6, 193), (7, 194), (8, 109), (9, 195), (10, 196)], 11, 48, [.lit (.int .u64 0), .lit (.int .u64 0), .lit (.int .u32 0), .lit (.int .u8 0), .lit (.int .u8 0), .lit (.int .u8 0), .lit (.int .u8 0), .lit .nilFunc, .lit (.pointer none), .lit (.int .i32 0), .lit (.int .i32 0)]⟩,
  ⟨.struct [(0, 12), (1, 12), (2, 164), (3, 192), (4, 5), (5, 5), (6, 193), (7, 194), (8, 109), (9, 195), (10, 196)], 11, 48, [.lit (.int .u64 0), .lit (.int .u64 0), .lit (.int .u32 0), .lit (.int .u8 0), .lit (.int .u8 0), .lit (.int .u8 0), .lit (.int .u8 0), .lit .nilFunc, .lit (.pointer none), .lit (.int .i32 0), .lit (.int .i32 0)]⟩]
def L : Tab := tabOf tbl
set_option maxRecDepth 100000 in
theorem L_ok : TabOk Tryz.prog L := tabOk_of (by kernel_rfl)
theorem mixed : Tryz.prog.follows .mixedOrders = true := by kernel_rfl
@[go_sem] theorem globAV_0 : globAV 0 = .ip (.agg firstAV) := glob_first rfl rfl
@[go_sem] theorem globAV_1 : globAV 1 = .ip (.agg acceptAV) := glob_accept rfl rfl
@[go_sem] theorem globAV_3 : globAV 3 = .ip .err := glob_ifc rfl
@[go_sem] theorem globAV_4 : globAV 4 = .ip .err := glob_ifc rfl
@[go_sem] theorem globAV_5 : globAV 5 = .ip (.agg pow10AV) := glob_pow10 rfl rfl
@[go_sem] theorem L_0 : L 0 = ltOther := rfl
@[go_sem] theorem L_1 : L 1 = ⟨.one, 1, 8, [.lit .nilFunc]⟩ := rfl
@[go_sem] theorem L_2 : L 2 = ⟨.int .i64, 1, 8, [.lit (.int .i64 0)]⟩ := rfl
@[go_sem] theorem L_3 : L 3 = ⟨.int .i64, 1, 8, [.lit (.int .i64 0)]⟩ := rfl
@[go_sem] theorem L_4 : L 4 = ⟨.bool, 1, 1, [.lit (.bool false)]⟩ := rfl
@[go_sem] theorem L_5 : L 5 = ⟨.int .u8, 1, 1, [.lit (.int .u8 0)]⟩ := rfl
@[go_sem] theorem L_6 : L 6 = ⟨.int .u8, 1, 1, [.lit (.int .u8 0)]⟩ := rfl
@[go_sem] theorem L_7 : L 7 = ⟨.struct [(0, 2), (1, 3), (2, 4), (3, 6)], 4, 24, [.lit (.int .i64 0), .lit (.int .i64 0), .lit (.bool false), .lit (.int .u8 0)]⟩ := rfl
@[go_sem] theorem L_8 : L 8 = ⟨.struct [(0, 2), (1, 3), (2, 4), (3, 6)], 4, 24, [.lit (.int .i64 0), .lit (.int .i64 0), .lit (.bool false), .lit (.int .u8 0)]⟩ := rfl
@[go_sem] theorem L_9 : L 9 = ⟨.str, 1, 16, [.str []]⟩ := rfl
@[go_sem] theorem L_10 : L 10 = ⟨.str, 1, 16, [.str []]⟩ := rfl
@[go_sem] theorem L_11 : L 11 = ⟨.str, 1, 16, [.str []]⟩ := rfl
@[go_sem] theorem L_12 : L 12 = ⟨.int .u64, 1, 8, [.lit (.int .u64 0)]⟩ := rfl
@[go_sem] theorem L_13 : L 13 = ⟨.struct [(0, 9), (1, 12)], 2, 24, [.str [], .lit (.int .u64 0)]⟩ := rfl
@[go_sem] theorem L_14 : L 14 = ⟨.struct [(0, 9), (1, 12)], 2, 24, [.str [], .lit (.int .u64 0)]⟩ := rfl
@[go_sem] theorem L_15 : L 15 = ⟨.ptr 188, 1, 8, [.lit (.pointer none)]⟩ := rfl
@[go_sem] theorem L_16 : L 16 = ⟨.ptr 191, 1, 8, [.lit (.pointer none)]⟩ := rfl
@[go_sem] theorem L_17 : L 17 = ⟨.ptr 198, 1, 8, [.lit (.pointer none)]⟩ := rfl
@[go_sem] theorem L_18 : L 18 = ⟨.struct [(0, 17)], 1, 8, [.lit (.pointer none)]⟩ := rfl
@[go_sem] theorem L_19 : L 19 = ⟨.struct [(0, 17)], 1, 8, [.lit (.pointer none)]⟩ := rfl
@[go_sem] theorem L_20 : L 20 = ⟨.iface, 1, 16, [.lit .nilIface]⟩ := rfl
@[go_sem] theorem L_21 : L 21 = ⟨.int .i32, 1, 4, [.lit (.int .i32 0)]⟩ := rfl
@[go_sem] theorem L_22 : L 22 = ⟨.one, 1, 8, [.lit .nilFunc]⟩ := rfl
@[go_sem] theorem L_23 : L 23 = ⟨.one, 1, 8, [.lit .nilFunc]⟩ := rfl
@[go_sem] theorem L_24 : L 24 = ⟨.slice 9, 1, 24, [.sl .full 0 []]⟩ := rfl
@[go_sem] theorem L_25 : L 25 = ⟨.slice 27, 1, 24, [.sl .full 0 []]⟩ := rfl
@[go_sem] theorem L_26 : L 26 = ⟨.struct [(0, 3), (1, 3), (2, 9), (3, 24), (4, 25)], 5, 80, [.lit (.int .i64 0), .lit (.int .i64 0), .str [], .sl .full 0 [], .sl .full 0 []]⟩ := rfl
@[go_sem] theorem L_27 : L 27 = ⟨.struct [(0, 3), (1, 3), (2, 9), (3, 24), (4, 25)], 5, 80, [.lit (.int .i64 0), .lit (.int .i64 0), .str [], .sl .full 0 [], .sl .full 0 []]⟩ := rfl
@[go_sem] theorem L_28 : L 28 = ⟨.int .i64, 1, 8, [.lit (.int .i64 0)]⟩ := rfl
@[go_sem] theorem L_29 : L 29 = ltOther := rfl
@[go_sem] theorem L_30 : L 30 = ⟨.one, 1, 8, [.lit .nilFunc]⟩ := rfl
@[go_sem] theorem L_31 : L 31 = ⟨.one, 1, 8, [.lit .nilFunc]⟩ := rfl
@[go_sem] theorem L_32 : L 32 = ⟨.one, 1, 8, [.lit .nilFunc]⟩ := rfl
@[go_sem] theorem L_33 : L 33 = ⟨.one, 1, 8, [.lit .nilFunc]⟩ := rfl
@[go_sem] theorem L_34 : L 34 = ⟨.one, 1, 8, [.lit .nilFunc]⟩ := rfl
@[go_sem] theorem L_35 : L 35 = ⟨.one, 1, 8, [.lit .nilFunc]⟩ := rfl
@[go_sem] theorem L_36 : L 36 = ⟨.slice 39, 1, 24, [.sl .full 0 []]⟩ := rfl
@[go_sem] theorem L_37 : L 37 = ⟨.one, 1, 8, [.lit .nilFunc]⟩ := rfl
@[go_sem] theorem L_38 : L 38 = ⟨.struct [(0, 9), (1, 27)], 6, 96, [.str [], .lit (.int .i64 0), .lit (.int .i64 0), .str [], .sl .full 0 [], .sl .full 0 []]⟩ := rfl
@[go_sem] theorem L_39 : L 39 = ⟨.struct [(0, 9), (1, 27)], 6, 96, [.str [], .lit (.int .i64 0), .lit (.int .i64 0), .str [], .sl .full 0 [], .sl .full 0 []]⟩ := rfl
@[go_sem] theorem L_40 : L 40 = ⟨.one, 1, 8, [.lit .nilFunc]⟩ := rfl
@[go_sem] theorem L_41 : L 41 = ⟨.one, 1, 8, [.lit .nilFunc]⟩ := rfl
@[go_sem] theorem L_42 : L 42 = ⟨.one, 1, 8, [.lit .nilFunc]⟩ := rfl
@[go_sem] theorem L_43 : L 43 = ⟨.one, 1, 8, [.lit .nilFunc]⟩ := rfl
@[go_sem] theorem L_44 : L 44 = ⟨.one, 1, 8, [.lit .nilFunc]⟩ := rfl
@[go_sem] theorem L_45 : L 45 = ⟨.arr 2 9, 2, 32, [.str [], .str []]⟩ := rfl
@[go_sem] theorem L_46 : L 46 = ltOther := rfl
@[go_sem] theorem L_47 : L 47 = ⟨.one, 1, 8, [.lit .nilFunc]⟩ := rfl
@[go_sem] theorem L_48 : L 48 = ⟨.one, 1, 8, [.lit .nilFunc]⟩ := rfl
@[go_sem] theorem L_49 : L 49 = ltOther := rfl
@[go_sem] theorem L_50 : L 50 = ⟨.one, 1, 8, [.lit .nilFunc]⟩ := rfl
@[go_sem] theorem L_51 : L 51 = ⟨.one, 1, 8, [.lit .nilFunc]⟩ := rfl
@[go_sem] theorem L_52 : L 52 = ⟨.one, 1, 8, [.lit .nilFunc]⟩ := rfl
@[go_sem] theorem L_53 : L 53 = ⟨.one, 1, 8, [.lit .nilFunc]⟩ := rfl
@[go_sem] theorem L_54 : L 54 = ⟨.slice 5, 1, 24, [.sl .full 0 []]⟩ := rfl
@[go_sem] theorem L_55 : L 55 = ⟨.ptr 59, 1, 8, [.lit (.pointer none)]⟩ := rfl
@[go_sem] theorem L_56 : L 56 = ⟨.struct [(0, 9), (1, 3)], 2, 24, [.str [], .lit (.int .i64 0)]⟩ := rfl
@[go_sem] theorem L_57 : L 57 = ⟨.struct [(0, 9), (1, 3)], 2, 24, [.str [], .lit (.int .i64 0)]⟩ := rfl
@[go_sem] theorem L_58 : L 58 = ⟨.struct [(0, 57), (2, 28)], 3, 32, [.str [], .lit (.int .i64 0), .lit (.int .i64 0)]⟩ := rfl
@[go_sem] theorem L_59 : L 59 = ⟨.struct [(0, 57), (2, 28)], 3, 32, [.str [], .lit (.int .i64 0), .lit (.int .i64 0)]⟩ := rfl
@[go_sem] theorem L_60 : L 60 = ⟨.one, 1, 8, [.lit .nilFunc]⟩ := rfl
@[go_sem] theorem L_61 : L 61 = ⟨.one, 1, 8, [.lit .nilFunc]⟩ := rfl
@[go_sem] theorem L_62 : L 62 = ltOther := rfl
@[go_sem] theorem L_63 : L 63 = ⟨.one, 1, 8, [.lit .nilFunc]⟩ := rfl
@[go_sem] theorem L_64 : L 64 = ⟨.one, 1, 8, [.lit .nilFunc]⟩ := rfl
@[go_sem] theorem L_65 : L 65 = ⟨.one, 1, 8, [.lit .nilFunc]⟩ := rfl
@[go_sem] theorem L_66 : L 66 = ⟨.one, 1, 8, [.lit .nilFunc]⟩ := rfl
@[go_sem] theorem L_67 : L 67 = ⟨.one, 1, 8, [.lit .nilFunc]⟩ := rfl
@[go_sem] theorem L_68 : L 68 = ⟨.one, 1, 8, [.lit .nilFunc]⟩ := rfl
@[go_sem] theorem L_69 : L 69 = ⟨.ptr 71, 1, 8, [.lit (.pointer none)]⟩ := rfl
@[go_sem] theorem L_70 : L 70 = ⟨.struct [(0, 69), (1, 54)], 2, 32, [.lit (.pointer none), .sl .full 0 []]⟩ := rfl
@[go_sem] theorem L_71 : L 71 = ⟨.struct [(0, 69), (1, 54)], 2, 32, [.lit (.pointer none), .sl .full 0 []]⟩ := rfl
@[go_sem] theorem L_72 : L 72 = ⟨.struct [(0, 71)], 2, 32, [.lit (.pointer none), .sl .full 0 []]⟩ := rfl
@[go_sem] theorem L_73 : L 73 = ⟨.struct [(0, 71)], 2, 32, [.lit (.pointer none), .sl .full 0 []]⟩ := rfl
@[go_sem] theorem L_74 : L 74 = ⟨.one, 1, 8, [.lit .nilFunc]⟩ := rfl
@[go_sem] theorem L_75 : L 75 = ⟨.one, 1, 8, [.lit .nilFunc]⟩ := rfl
@[go_sem] theorem L_76 : L 76 = ⟨.one, 1, 8, [.lit .nilFunc]⟩ := rfl
@[go_sem] theorem L_77 : L 77 = ⟨.one, 1, 8, [.lit .nilFunc]⟩ := rfl
@[go_sem] theorem L_78 : L 78 = ⟨.one, 1, 8, [.lit .nilFunc]⟩ := rfl
@[go_sem] theorem L_79 : L 79 = ⟨.one, 1, 8, [.lit .nilFunc]⟩ := rfl
@[go_sem] theorem L_80 : L 80 = ⟨.one, 1, 8, [.lit .nilFunc]⟩ := rfl
@[go_sem] theorem L_81 : L 81 = ⟨.one, 1, 8, [.lit .nilFunc]⟩ := rfl
@[go_sem] theorem L_82 : L 82 = ⟨.ptr 57, 1, 8, [.lit (.pointer none)]⟩ := rfl
@[go_sem] theorem L_83 : L 83 = ⟨.one, 1, 8, [.lit .nilFunc]⟩ := rfl
@[go_sem] theorem L_84 : L 84 = ⟨.slice 21, 1, 24, [.sl .full 0 []]⟩ := rfl
@[go_sem] theorem L_85 : L 85 = ltOther := rfl
@[go_sem] theorem L_86 : L 86 = ⟨.one, 1, 8, [.lit .nilFunc]⟩ := rfl
@[go_sem] theorem L_87 : L 87 = ⟨.one, 1, 8, [.lit .nilFunc]⟩ := rfl
@[go_sem] theorem L_88 : L 88 = ltOther := rfl
@[go_sem] theorem L_89 : L 89 = ⟨.one, 1, 8, [.lit .nilFunc]⟩ := rfl
@[go_sem] theorem L_90 : L 90 = ltOther := rfl
@[go_sem] theorem L_91 : L 91 = ⟨.one, 1, 8, [.lit .nilFunc]⟩ := rfl
@[go_sem] theorem L_92 : L 92 = ⟨.one, 1, 8, [.lit .nilFunc]⟩ := rfl
@[go_sem] theorem L_93 : L 93 = ltOther := rfl
@[go_sem] theorem L_94 : L 94 = ⟨.one, 1, 8, [.lit .nilFunc]⟩ := rfl
@[go_sem] theorem L_95 : L 95 = ⟨.one, 1, 8, [.lit .nilFunc]⟩ := rfl
@[go_sem] theorem L_96 : L 96 = ⟨.one, 1, 8, [.lit .nilFunc]⟩ := rfl
@[go_sem] theorem L_97 : L 97 = ⟨.one, 1, 8, [.lit .nilFunc]⟩ := rfl
@[go_sem] theorem L_98 : L 98 = ⟨.one, 1, 8, [.lit .nilFunc]⟩ := rfl
@[go_sem] theorem L_99 : L 99 = ⟨.one, 1, 8, [.lit .nilFunc]⟩ := rfl
@[go_sem] theorem L_100 : L 100 = ⟨.one, 1, 8, [.lit .nilFunc]⟩ := rfl
@[go_sem] theorem L_101 : L 101 = ⟨.one, 1, 8, [.lit .nilFunc]⟩ := rfl
@[go_sem] theorem L_102 : L 102 = ⟨.ptr 73, 1, 8, [.lit (.pointer none)]⟩ := rfl
@[go_sem] theorem L_103 : L 103 = ⟨.iface, 1, 16, [.lit .nilIface]⟩ := rfl
@[go_sem] theorem L_104 : L 104 = ⟨.iface, 1, 16, [.lit .nilIface]⟩ := rfl
@[go_sem] theorem L_105 : L 105 = ltOther := rfl
@[go_sem] theorem L_106 : L 106 = ⟨.one, 1, 8, [.lit .nilFunc]⟩ := rfl
@[go_sem] theorem L_107 : L 107 = ⟨.one, 1, 8, [.lit .nilFunc]⟩ := rfl
@[go_sem] theorem L_108 : L 108 = ⟨.one, 1, 8, [.lit .nilFunc]⟩ := rfl
@[go_sem] theorem L_109 : L 109 = ⟨.ptr 5, 1, 8, [.lit (.pointer none)]⟩ := rfl
@[go_sem] theorem L_110 : L 110 = ⟨.one, 1, 8, [.lit .nilFunc]⟩ := rfl
@[go_sem] theorem L_111 : L 111 = ⟨.int .u64, 1, 8, [.lit (.int .u64 0)]⟩ := rfl
@[go_sem] theorem L_112 : L 112 = ⟨.one, 1, 8, [.lit .nilFunc]⟩ := rfl
@[go_sem] theorem L_113 : L 113 = ⟨.arr 256 5, 256, 256, List.replicate 256 (.lit (.int .u8 0))⟩ := rfl
@[go_sem] theorem L_114 : L 114 = ⟨.struct [(0, 5), (1, 5)], 2, 2, [.lit (.int .u8 0), .lit (.int .u8 0)]⟩ := rfl
@[go_sem] theorem L_115 : L 115 = ⟨.struct [(0, 5), (1, 5)], 2, 2, [.lit (.int .u8 0), .lit (.int .u8 0)]⟩ := rfl
@[go_sem] theorem L_116 : L 116 = ⟨.arr 16 115, 32, 32, List.replicate 32 (.lit (.int .u8 0))⟩ := rfl
@[go_sem] theorem L_117 : L 117 = ⟨.one, 1, 8, [.lit .nilFunc]⟩ := rfl
@[go_sem] theorem L_118 : L 118 = ⟨.one, 1, 8, [.lit .nilFunc]⟩ := rfl
@[go_sem] theorem L_119 : L 119 = ltOther := rfl
@[go_sem] theorem L_120 : L 120 = ⟨.one, 1, 8, [.lit .nilFunc]⟩ := rfl
@[go_sem] theorem L_121 : L 121 = ltOther := rfl
@[go_sem] theorem L_122 : L 122 = ⟨.one, 1, 8, [.lit .nilFunc]⟩ := rfl
@[go_sem] theorem L_123 : L 123 = ⟨.one, 1, 8, [.lit .nilFunc]⟩ := rfl
@[go_sem] theorem L_124 : L 124 = ⟨.one, 1, 8, [.lit .nilFunc]⟩ := rfl
@[go_sem] theorem L_125 : L 125 = ⟨.one, 1, 8, [.lit .nilFunc]⟩ := rfl
@[go_sem] theorem L_126 : L 126 = ⟨.one, 1, 8, [.lit .nilFunc]⟩ := rfl
@[go_sem] theorem L_127 : L 127 = ⟨.int .u64, 1, 8, [.lit (.int .u64 0)]⟩ := rfl
@[go_sem] theorem L_128 : L 128 = ltOther := rfl
@[go_sem] theorem L_129 : L 129 = ⟨.one, 1, 8, [.lit .nilFunc]⟩ := rfl
@[go_sem] theorem L_130 : L 130 = ⟨.one, 1, 8, [.lit .nilFunc]⟩ := rfl
@[go_sem] theorem L_131 : L 131 = ⟨.one, 1, 8, [.lit .nilFunc]⟩ := rfl
@[go_sem] theorem L_132 : L 132 = ⟨.one, 1, 8, [.lit .nilFunc]⟩ := rfl
@[go_sem] theorem L_133 : L 133 = ⟨.one, 1, 8, [.lit .nilFunc]⟩ := rfl
@[go_sem] theorem L_134 : L 134 = ⟨.one, 1, 8, [.lit .nilFunc]⟩ := rfl
@[go_sem] theorem L_135 : L 135 = ltOther := rfl
@[go_sem] theorem L_136 : L 136 = ⟨.one, 1, 8, [.lit .nilFunc]⟩ := rfl
@[go_sem] theorem L_137 : L 137 = ⟨.uptr, 1, 8, [.lit (.pointer none)]⟩ := rfl
@[go_sem] theorem L_138 : L 138 = ⟨.one, 1, 8, [.lit .nilFunc]⟩ := rfl
@[go_sem] theorem L_139 : L 139 = ⟨.one, 1, 8, [.lit .nilFunc]⟩ := rfl
@[go_sem] theorem L_140 : L 140 = ⟨.one, 1, 8, [.lit .nilFunc]⟩ := rfl
@[go_sem] theorem L_141 : L 141 = ltOther := rfl
@[go_sem] theorem L_142 : L 142 = ⟨.one, 1, 8, [.lit .nilFunc]⟩ := rfl
@[go_sem] theorem L_143 : L 143 = ⟨.one, 1, 8, [.lit .nilFunc]⟩ := rfl
@[go_sem] theorem L_144 : L 144 = ⟨.one, 1, 8, [.lit .nilFunc]⟩ := rfl
@[go_sem] theorem L_145 : L 145 = ⟨.int .i64, 1, 8, [.lit (.int .i64 0)]⟩ := rfl
@[go_sem] theorem L_146 : L 146 = ⟨.ptr 167, 1, 8, [.lit (.pointer none)]⟩ := rfl
@[go_sem] theorem L_147 : L 147 = ⟨.one, 1, 8, [.lit .nilFunc]⟩ := rfl
@[go_sem] theorem L_148 : L 148 = ⟨.one, 1, 8, [.lit .nilFunc]⟩ := rfl
@[go_sem] theorem L_149 : L 149 = ⟨.one, 1, 8, [.lit .nilFunc]⟩ := rfl
@[go_sem] theorem L_150 : L 150 = ⟨.one, 1, 8, [.lit .nilFunc]⟩ := rfl
@[go_sem] theorem L_151 : L 151 = ⟨.one, 1, 8, [.lit .nilFunc]⟩ := rfl
@[go_sem] theorem L_152 : L 152 = ⟨.arr 24 5, 24, 24, List.replicate 24 (.lit (.int .u8 0))⟩ := rfl
@[go_sem] theorem L_153 : L 153 = ⟨.one, 1, 8, [.lit .nilFunc]⟩ := rfl
@[go_sem] theorem L_154 : L 154 = ⟨.one, 1, 8, [.lit .nilFunc]⟩ := rfl
@[go_sem] theorem L_155 : L 155 = ltOther := rfl
@[go_sem] theorem L_156 : L 156 = ⟨.one, 1, 8, [.lit .nilFunc]⟩ := rfl
@[go_sem] theorem L_157 : L 157 = ⟨.one, 1, 8, [.lit .nilFunc]⟩ := rfl
@[go_sem] theorem L_158 : L 158 = ⟨.arr 256 4, 256, 256, List.replicate 256 (.lit (.bool false))⟩ := rfl
@[go_sem] theorem L_159 : L 159 = ⟨.arr 256 4, 256, 256, List.replicate 256 (.lit (.bool false))⟩ := rfl
@[go_sem] theorem L_160 : L 160 = ltOther := rfl
@[go_sem] theorem L_161 : L 161 = ⟨.one, 1, 8, [.lit .nilFunc]⟩ := rfl
@[go_sem] theorem L_162 : L 162 = ⟨.one, 1, 8, [.lit .nilFunc]⟩ := rfl
@[go_sem] theorem L_163 : L 163 = ⟨.ptr 159, 1, 8, [.lit (.pointer none)]⟩ := rfl
@[go_sem] theorem L_164 : L 164 = ⟨.int .u32, 1, 4, [.lit (.int .u32 0)]⟩ := rfl
@[go_sem] theorem L_165 : L 165 = ⟨.one, 1, 8, [.lit .nilFunc]⟩ := rfl
@[go_sem] theorem L_166 : L 166 = ⟨.struct [(0, 9), (1, 9), (2, 104)], 3, 48, [.str [], .str [], .lit .nilIface]⟩ := rfl
@[go_sem] theorem L_167 : L 167 = ⟨.struct [(0, 9), (1, 9), (2, 104)], 3, 48, [.str [], .str [], .lit .nilIface]⟩ := rfl
@[go_sem] theorem L_168 : L 168 = ⟨.one, 1, 8, [.lit .nilFunc]⟩ := rfl
@[go_sem] theorem L_169 : L 169 = ⟨.one, 1, 8, [.lit .nilFunc]⟩ := rfl
@[go_sem] theorem L_170 : L 170 = ⟨.one, 1, 8, [.lit .nilFunc]⟩ := rfl
@[go_sem] theorem L_171 : L 171 = ⟨.arr 20 127, 20, 160, List.replicate 20 (.lit (.int .u64 0))⟩ := rfl
@[go_sem] theorem L_172 : L 172 = ⟨.arr 65 5, 65, 65, List.replicate 65 (.lit (.int .u8 0))⟩ := rfl
@[go_sem] theorem L_173 : L 173 = ⟨.one, 1, 8, [.lit .nilFunc]⟩ := rfl
@[go_sem] theorem L_174 : L 174 = ⟨.one, 1, 8, [.lit .nilFunc]⟩ := rfl
@[go_sem] theorem L_175 : L 175 = ⟨.one, 1, 8, [.lit .nilFunc]⟩ := rfl
@[go_sem] theorem L_176 : L 176 = ltOther := rfl
@[go_sem] theorem L_177 : L 177 = ⟨.one, 1, 8, [.lit .nilFunc]⟩ := rfl
@[go_sem] theorem L_178 : L 178 = ⟨.one, 1, 8, [.lit .nilFunc]⟩ := rfl
@[go_sem] theorem L_179 : L 179 = ⟨.ptr 181, 1, 8, [.lit (.pointer none)]⟩ := rfl
@[go_sem] theorem L_180 : L 180 = ⟨.struct [(0, 9)], 1, 16, [.str []]⟩ := rfl
@[go_sem] theorem L_181 : L 181 = ⟨.struct [(0, 9)], 1, 16, [.str []]⟩ := rfl
@[go_sem] theorem L_182 : L 182 = ⟨.one, 1, 8, [.lit .nilFunc]⟩ := rfl
@[go_sem] theorem L_183 : L 183 = ⟨.one, 1, 8, [.lit .nilFunc]⟩ := rfl
@[go_sem] theorem L_184 : L 184 = ⟨.arr 32 5, 32, 32, List.replicate 32 (.lit (.int .u8 0))⟩ := rfl
@[go_sem] theorem L_185 : L 185 = ⟨.arr 64 5, 64, 64, List.replicate 64 (.lit (.int .u8 0))⟩ := rfl
@[go_sem] theorem L_186 : L 186 = ⟨.one, 1, 8, [.lit .nilFunc]⟩ := rfl
@[go_sem] theorem L_187 : L 187 = ⟨.struct [(0, 17), (1, 17), (2, 17), (3, 9)], 4, 40, [.lit (.pointer none), .lit (.pointer none), .lit (.pointer none), .str []]⟩ := rfl
@[go_sem] theorem L_188 : L 188 = ⟨.struct [(0, 17), (1, 17), (2, 17), (3, 9)], 4, 40, [.lit (.pointer none), .lit (.pointer none), .lit (.pointer none), .str []]⟩ := rfl
@[go_sem] theorem L_189 : L 189 = ⟨.arr 0 16, 0, 0, []⟩ := rfl
@[go_sem] theorem L_190 : L 190 = ⟨.struct [(0, 189)], 0, 0, []⟩ := rfl
@[go_sem] theorem L_191 : L 191 = ⟨.struct [(0, 189)], 0, 0, []⟩ := rfl
@[go_sem] theorem L_192 : L 192 = ⟨.int .u8, 1, 1, [.lit (.int .u8 0)]⟩ := rfl
@[go_sem] theorem L_193 : L 193 = ⟨.int .u8, 1, 1, [.lit (.int .u8 0)]⟩ := rfl
@[go_sem] theorem L_194 : L 194 = ⟨.one, 1, 8, [.lit .nilFunc]⟩ := rfl
@[go_sem] theorem L_195 : L 195 = ⟨.int .i32, 1, 4, [.lit (.int .i32 0)]⟩ := rfl
@[go_sem] theorem L_196 : L 196 = ⟨.int .i32, 1, 4, [.lit (.int .i32 0)]⟩ := rfl
@[go_sem] theorem L_197 : L 197 = ⟨.struct [(0, 12), (1, 12), (2, 164), (3, 192), (4, 5), (5, 5), (6, 193), (7, 194), (8, 109), (9, 195), (10, 196)], 11, 48, [.lit (.int .u64 0), .lit (.int .u64 0), .lit (.int .u32 0), .lit (.int .u8 0), .lit (.int .u8 0), .lit (.int .u8 0), .lit (.int .u8 0), .lit .nilFunc, .lit (.pointer none), .lit (.int .i32 0), .lit (.int .i32 0)]⟩ := rfl
@[go_sem] theorem L_198 : L 198 = ⟨.struct [(0, 12), (1, 12), (2, 164), (3, 192), (4, 5), (5, 5), (6, 193), (7, 194), (8, 109), (9, 195), (10, 196)], 11, 48, [.lit (.int .u64 0), .lit (.int .u64 0), .lit (.int .u32 0), .lit (.int .u8 0), .lit (.int .u8 0), .lit (.int .u8 0), .lit (.int .u8 0), .lit .nilFunc, .lit (.pointer none), .lit (.int .i32 0), .lit (.int .i32 0)]⟩ := rfl
end Go.Proofs.YtplmbhjhihoneaaGreatDoor.V
end

section
set_option linter.unusedSimpArgs false
set_option linter.unusedVariables false
namespace Go.Proofs.YtplmbhjhihoneaaGreatDoor.V
open Go Go.ChangeShapes Go.WideShapes Go.RowKit

/-- All memory that there is when the call begins stays as it is. -/
def G₀ (W : World) : Gh := { imm := fun b _ => b < W.heap.size, blk := fun _ => 0, own := fun _ => (none, 0) }
def TabsW (W : World) : Prop := (∀ g j v, (gtab g)[j]? = some v → W.cell? ⟨g, j, none⟩ = some v) ∧ ∀ g t, gifc g = some t → ∃ t v, W.cell? ⟨g, 0, none⟩ = some (.iface t v)
theorem inv₀ {W : World} (h : TabsW W) : HInv (G₀ W) [] W := by
  have lt : ∀ g j v, W.cell? ⟨g, j, none⟩ = some v → g < W.heap.size := fun g j v this => by
    rcases Nat.lt_or_ge g W.heap.size with hl | hl
    · exact hl
    · simp [World.cell?, Array.getElem?_eq_none hl] at this
  exact ⟨fun b off h => h, fun k sh cs e => by simp at e, fun k s n t e => by simp at e, fun k k' b e => by simp [site] at e, fun g j v e => ⟨lt g j v (h.1 g j v e), h.1 g j v e⟩,
    fun g t e => let ⟨u, v, hv⟩ := h.2 g t e; ⟨lt g 0 _ hv, u, v, hv⟩⟩
theorem law_calls {P : Program} {f : FuncId} {fn : Func} {W : World} {xs : List AV} {args : Array Value} (hf : P.funcs[f]? = some fn) (hb : fn.body.isSome = true) (hn : (fn.name == "runtime.NumGoroutine") = false) (ht : TabsW W) (hr : RelAll (G₀ W) [] W xs args)
    (hA : ACalls P f xs [] (fun x H' => x = .bool true ∧ H' = [])) : Calls P f args W fun e W' => e = .returned (.bool true) ∧ Below W.heap.size W W' := by
  refine ((hA (G₀ W) W args (inv₀ ht) hr).calls hf hb hn).mono ?_
  rintro e w' ⟨v, rfl, x, G', H', hi, hs, hx, rfl, rfl⟩
  have := rel_lit_inv hx
  subst this
  exact ⟨rfl, hs.os, hs.tape, hs.output, hs.size, fun b hb => hs.whole b fun off => hb⟩

section
variable {H : Type} {enc : TypeId × Value → H} {P : Program} {W W' : World}
theorem trod_below (K : Kids P (· < P.types.size)) (hsz : ∀ {t e : TypeId}, t < P.types.size → P.underlying t = some (.slice e) → 0 < P.cellsOf e) (hb : Below W.heap.size W W') {sp : Nat → Bool} :
    ∀ {ts : List TypeId} {vs : List Value} {ds : List (DataW H)} {ps : List MemPlace}, (∀ t ∈ ts, t < P.types.size) → DataW.TrodAll enc P W 0 (fun _ => true) true ts vs ds ps → (∀ p ∈ ps, sp p.block = true) → DataW.TrodAll enc P W' 0 sp true ts vs ds ps
  | [], vs, ds, ps, _, h, _ => by
    obtain ⟨rfl, rfl, rfl⟩ := trodAll_nil h
    exact trodAll_mk0
  | t :: ts, vs, ds, ps, hT, h, hs => by
    obtain ⟨v, vs1, d, ds1, a, b, rfl, rfl, rfl, ⟨n, h1⟩, h2⟩ := trodAll_cons h
    refine ⟨a, b, ⟨n, DataW.trod_stays K hsz (fun h => by cases h) (hT t (List.mem_cons_self ..)) h1 (fun p hp => hb.same (DataW.trod_lt n t _ _ h1 p hp)) fun p hp => hs p (List.mem_append_left _ hp)⟩, ?_, rfl⟩
    exact trod_below K hsz hb (fun t ht => hT t (List.mem_cons_of_mem _ ht)) h2 fun p hp => hs p (List.mem_append_right _ hp)
theorem law_post (K : Kids P (· < P.types.size)) (hsz : ∀ {t e : TypeId}, t < P.types.size → P.underlying t = some (.slice e) → 0 < P.cellsOf e) {f : Func} {s : ChangeSpec} {apart fresh handsOn again : Bool} {args : Array Value} {ds gs : List (DataW H)} {before : List MemPlace}
    (hT : ∀ t ∈ f.params.toList, t < P.types.size) {tb : TypeId} (hres : f.resultTypes = #[tb]) (htb : P.underlying tb = some .bool) (hv : s.vars = [])
    (hspec : ∀ ds : List (DataW H), ds.length = f.params.size → s.fn H ds = { results := [.lit (.bool true)], args := ds })
    (hW : DataW.Whole enc P f.params.toList s.vars apart W args.toList ds gs before) (hb : Below W.heap.size W W') : s.post enc P f apart fresh handsOn again W args (.bool true) W' := by
  have hW' := hW
  obtain ⟨p, q, hA, hV, rfl, hfz, hnd⟩ := hW
  rw [hv] at hV
  obtain ⟨rfl, rfl⟩ := trodVars_none hV
  have hlen : ∀ {ts : List TypeId} {vs : List Value} {ds : List (DataW H)} {ps : List MemPlace}, DataW.TrodAll enc P W 0 (fun _ => true) true ts vs ds ps → ds.length = ts.length := by
    intro ts
    induction ts with
    | nil => intro vs ds ps h; obtain ⟨_, rfl, _⟩ := trodAll_nil h; rfl
    | cons t ts ih =>
      intro vs ds ps h
      obtain ⟨v, vs1, d, ds1, a, b, rfl, rfl, rfl, _, h2⟩ := trodAll_cons h
      simp [ih h2]
  have hs := hspec (ds ++ []) (by rw [List.append_nil, hlen hA]; simp)
  have hold : ∀ p' ∈ p ++ [], (fun b => decide (b < W.heap.size)) p'.block = true := fun p' hp => by simpa using hW'.lt p' hp
  have hres' : ∀ (b : Nat) (sp : Nat → Bool) (hd : Bool), DataW.TrodAll enc P W' b sp hd f.resultTypes.toList ((Value.bool true).resultList f.resultTypes.size) (s.fn H (ds ++ [])).results [] := fun b sp hd => by
    rw [hs, hres]
    exact trodAll_mk1 (shut_bool htb true)
  have hargs : ∀ sp : Nat → Bool, (∀ p' ∈ p, sp p'.block = true) → DataW.TrodAll enc P W' 0 sp true f.params.toList args.toList (s.fn H (ds ++ [])).args p := fun sp hsp => by
    rw [hs, List.append_nil]
    exact trod_below K hsz hb hT hA hsp
  have hvars : ∀ sp : Nat → Bool, DataW.TrodVars enc P W' sp s.vars (s.fn H (ds ++ [])).vars [] := fun sp => by
    rw [hs, hv]
    rfl
  refine ⟨ds, [], p ++ [], [], p, [], hW', hres' _ _ _, hargs _ (fun p' hp => hold p' (List.mem_append_left _ hp)), hvars _, World.keptBut_mono (fun p' hp => ⟨hp, ?_⟩) (hb.frame (· ∈ p ++ [])), fun _ => ?_⟩
  · exact Or.inr (by simpa using hp)
  · refine ⟨fun j t r h1 h2 => ?_, _, _, ([] ++ p) ++ [], ⟨[] ++ p, [], trodAll_append (hargs _ (fun _ _ => rfl)) (hres' _ _ _), hvars _, rfl, ?_, ?_⟩, ?_⟩
    · rw [hres] at h1 h2
      match j, h1, h2 with
      | 0, h1, h2 =>
        simp at h1
        have : r = .bool true := by simpa [Value.resultList] using h2.symm
        subst h1
        subst this
        exact okWide_bool_mk htb true
      | j + 1, h1, _ => simp at h1
    · intro b off hp
      have hlt : b < W.heap.size := hW'.lt (.cell b off) (by simpa using hp)
      rw [hb.frozen (p := ⟨b, off, none⟩) hlt]
      exact hfz b off (by simpa using hp)
    · intro ha
      have := hnd ha
      simpa using this
    · intro p' hp _
      simpa using hp
end
end Go.Proofs.YtplmbhjhihoneaaGreatDoor.V
end

section
set_option linter.unusedSimpArgs false
set_option linter.unusedVariables false
namespace Go.Proofs.YtplmbhjhihoneaaGreatDoor.V
open Go Go.ChangeShapes Go.WideShapes Go.RowKit
theorem flats_find {s : Nat} (hs : 0 < s) : ∀ {xs : List AV}, (∀ x ∈ xs, x.flat.length = s) → ∀ {j : Nat} {y : AV}, (flats xs)[j]? = some y → ∃ x, xs[j / s]? = some x ∧ x.flat[j % s]? = some y
  | [], _, j, y, h => by simp [flats] at h
  | x :: xs, hx, j, y, h => by
    rw [flats_cons] at h
    have hl := hx x (List.mem_cons_self ..)
    by_cases hj : j < s
    · rw [List.getElem?_append_left (by omega)] at h
      rw [Nat.div_eq_of_lt hj, Nat.mod_eq_of_lt hj]
      exact ⟨x, rfl, h⟩
    · rw [List.getElem?_append_right (by omega), hl] at h
      obtain ⟨z, h1, h2⟩ := flats_find hs (fun x hx' => hx x (List.mem_cons_of_mem _ hx')) h
      refine ⟨z, ?_, ?_⟩
      · rw [show j / s = (j - s) / s + 1 by rw [← Nat.sub_add_cancel (Nat.le_of_not_lt hj), Nat.add_div_right _ hs]; simp]
        simpa using h1
      · rw [show j % s = (j - s) % s by rw [← Nat.sub_add_cancel (Nat.le_of_not_lt hj), Nat.add_mod_right]; simp]
        exact h2

/-- Cells that hold an abstract value. -/
def RelC (w : World) (x : AV) (cs : List Value) : Prop := x.okv = true ∧ x.flat.length = cs.length ∧ ∀ (j : Nat) y c, x.flat[j]? = some y → cs[j]? = some c → Rel (G₀ w) [] w y c
theorem relC_one {w : World} {x : AV} {c : Value} (hx : x.flat = [x]) (ho : x.okv = true) (h : Rel (G₀ w) [] w x c) : RelC w x [c] := by
  refine ⟨ho, by rw [hx]; rfl, fun j y d e e' => ?_⟩
  rw [hx] at e
  cases j with
  | zero => simp at e e'; subst e; subst e'; exact h
  | succ j => simp at e

section
variable {H : Type} {enc : TypeId × Value → H} {P : Program} {w : World}
/-- Whatever is read at a type, by so much fuel, is one of these values. -/
def Opens {α : Type} (enc : TypeId × Value → H) (P : Program) (w : World) (n : Nat) (t : TypeId) (f : α → AV) (p : α → Prop) : Prop :=
  ∀ (m : Nat) cs x, m ≤ n → DataW.trod enc P w 0 (fun _ => true) true m t cs = some x → ∃ v : α, p v ∧ RelC w (f v) cs
theorem Opens.mono {α : Type} {n m : Nat} {t : TypeId} {f : α → AV} {p : α → Prop} (h : Opens enc P w n t f p) (hm : m ≤ n) : Opens enc P w m t f p := fun k cs x hk hx => h k cs x (by omega) hx
theorem Opens.zero {α : Type} {t : TypeId} {f : α → AV} {p : α → Prop} : Opens enc P w 0 t f p := fun m cs x hm hx => by
  obtain rfl : m = 0 := by omega
  simp [DataW.trod] at hx
theorem Opens.imp {α β : Type} {n : Nat} {t : TypeId} {f : α → AV} {p : α → Prop} {g : β → AV} {q : β → Prop} (h : Opens enc P w n t f p) (k : ∀ v, p v → ∃ u, q u ∧ g u = f v) : Opens enc P w n t g q := fun m cs x hm hx => by
  obtain ⟨v, hv, hr⟩ := h m cs x hm hx
  obtain ⟨u, hu, e⟩ := k v hv
  exact ⟨u, hu, e ▸ hr⟩
theorem opens_int {t : TypeId} {k : IntKind} (n : Nat) (ht : P.underlying t = some (.int k)) : Opens enc P w n t (fun i : Int => .lit (.int k i)) (fun i => k.min ≤ i ∧ i ≤ k.max) := fun m cs x _ hx => by
  obtain ⟨i, rfl, _, hw⟩ := DataW.trod_int ht hx
  refine ⟨i, ?_, relC_one rfl rfl (.lit _)⟩
  simp only [Lit.wf, Bool.and_eq_true, decide_eq_true_eq] at hw
  exact hw
theorem opens_string {t : TypeId} (n : Nat) (ht : P.underlying t = some .string) : Opens enc P w n t AV.str (fun l => l.length ≤ 9223372036854775807) := fun m cs x _ hx => by
  obtain ⟨s, rfl, _, hw⟩ := DataW.trod_string ht hx
  refine ⟨s.data.toList, ?_, relC_one rfl rfl ?_⟩
  · have : s.data.toList.length = s.size := Array.length_toList
    show s.data.toList.length ≤ _
    rw [this]
    unfold maxLen at hw
    omega
  · have : s = ⟨s.data.toList.toArray⟩ := by simp
    conv => rhs; rw [this]
    exact .str _
theorem add_add (a : Addr) (i j : Nat) : (a.add i).add j = a.add (i + j) := by
  unfold Addr.add
  by_cases hi : i = 0 <;> by_cases hj : j = 0 <;> simp [hi, hj, Nat.add_assoc]
theorem opens_slice {α : Type} {t e : TypeId} {s n : Nat} {f : α → AV} {p : α → Prop} (ht : P.underlying t = some (.slice e)) (hc : P.cellsOf e = s) (hs : 0 < s) (h : Opens enc P w n e f p) :
    Opens enc P w (n + 1) t (fun l : List α => .sl .sh s (l.map f)) (fun l => l.length ≤ 9223372036854775807 ∧ ∀ v ∈ l, p v) := fun m cs x hm hx => by
  rcases DataW.trod_slice ht hx with ⟨rfl, _⟩ | ⟨a, len, cap, elems, rest, k, hk, rfl, _, hb, hl, hcap, hlen, hel, _, _⟩
  · refine ⟨[], ⟨by simp, fun v hv => by cases hv⟩, relC_one rfl rfl ?_⟩
    exact .sl .sh s [] none 0 0 (fun _ => undef) rfl (Nat.le_refl _) (fun x hx => by cases hx) (fun j x e => by simp [flats] at e) (fun j x e => by simp [flats] at e) (fun e => by cases e) (fun h => absurd h (by omega)) (fun k e => by cases e)
  · subst hc
    have each : ∀ i, i < len → ∃ v : α, p v ∧ ∃ cs', w.cells? 0 (a.add (i * P.cellsOf e)) (P.cellsOf e) = some cs' ∧ RelC w (f v) cs' := fun i hi => by
      have := hel i hi
      rw [List.getElem?_eq_getElem (by omega), Option.bind_eq_some_iff] at this
      obtain ⟨cs', h1, h2⟩ := this
      obtain ⟨v, hv, hr⟩ := h k cs' _ (by omega) h2
      exact ⟨v, hv, cs', h1, hr⟩
    obtain ⟨g, hg⟩ : ∃ g : Nat → Option α, ∀ i, i < len → ∃ v, g i = some v ∧ p v ∧ ∃ cs', w.cells? 0 (a.add (i * P.cellsOf e)) (P.cellsOf e) = some cs' ∧ RelC w (f v) cs' := by
      refine ⟨fun i => if hi : i < len then some (Classical.choose (each i hi)) else none, fun i hi => ?_⟩
      simp only [dif_pos hi]
      exact ⟨_, rfl, Classical.choose_spec (each i hi)⟩
    have hget : ∀ (n : Nat), n ≤ len → ((List.range n).filterMap g).length = n ∧ ∀ i, i < n → ((List.range n).filterMap g)[i]? = g i := by
      intro n
      induction n with
      | zero => intro _; exact ⟨rfl, fun i hi => absurd hi (by omega)⟩
      | succ n ih =>
        intro hn
        obtain ⟨h1, h2⟩ := ih (by omega)
        obtain ⟨v, hv, _⟩ := hg n (by omega)
        rw [List.range_succ, List.filterMap_append]
        have e1 : List.filterMap g [n] = [v] := by simp [hv]
        rw [e1]
        refine ⟨by simp [h1], fun i hi => ?_⟩
        by_cases hin : i < n
        · rw [List.getElem?_append_left (by omega)]; exact h2 i hin
        · obtain rfl : i = n := by omega
          rw [List.getElem?_append_right (by omega), h1, Nat.sub_self, hv]
          rfl
    obtain ⟨l, hll, hlg⟩ : ∃ l : List α, l.length = len ∧ ∀ i, i < len → l[i]? = g i := ⟨_, hget len (Nat.le_refl _)⟩
    have hat : ∀ i v, l[i]? = some v → i < len ∧ p v ∧ ∃ cs', w.cells? 0 (a.add (i * P.cellsOf e)) (P.cellsOf e) = some cs' ∧ RelC w (f v) cs' := fun i v hv => by
      have hi : i < len := by have := lt_of_get hv; omega
      rw [hlg i hi] at hv
      obtain ⟨v', h1, h2⟩ := hg i hi
      rw [h1] at hv
      cases hv
      exact ⟨hi, h2⟩
    have huni : ∀ y ∈ l.map f, y.flat.length = P.cellsOf e ∧ y.okv = true := fun y hy => by
      obtain ⟨v, hv, rfl⟩ := List.mem_map.1 hy
      obtain ⟨i, hi⟩ := List.getElem?_of_mem hv
      obtain ⟨_, _, cs', h1, h2, h3, _⟩ := hat i v hi
      exact ⟨by rw [h3]; exact (World.cells?_some h1).2.1, h2⟩
    have hmax : len ≤ 9223372036854775807 := by unfold maxLen at hcap; omega
    refine ⟨l, ⟨by rw [hll]; exact hmax, fun v hv => ?_⟩, relC_one rfl rfl ?_⟩
    · obtain ⟨i, hi⟩ := List.getElem?_of_mem hv
      exact (hat i v hi).2.1
    · by_cases h0 : len = 0
      · have hnil : l = [] := List.eq_nil_of_length_eq_zero (by omega)
        rw [hnil]
        exact .sl .sh _ [] _ _ _ (fun _ => undef) (by simp [h0]) hl (fun x hx => by cases hx) (fun j x e => by simp [flats] at e) (fun j x e => by simp [flats] at e) (fun e => by cases e) (fun h => absurd h (by omega)) (fun k e => by cases e)
      · have hcellat : ∀ (j : Nat) y, (flats (l.map f))[j]? = some y → ∃ u, w.cell? (a.add j) = some u ∧ Rel (G₀ w) [] w y u := fun j y hj => by
          obtain ⟨z, h1, h2⟩ := flats_find hs (fun y hy => (huni y hy).1) hj
          rw [List.getElem?_map, Option.map_eq_some_iff] at h1
          obtain ⟨v, hv, rfl⟩ := h1
          obtain ⟨hi, _, cs', hc', _, hl', hr⟩ := hat _ v hv
          obtain ⟨_, hn', hcell⟩ := World.cells?_some hc'
          have hlt : j % P.cellsOf e < P.cellsOf e := Nat.mod_lt _ hs
          have := hcell (j % P.cellsOf e) hlt
          rw [List.getElem?_eq_getElem (by omega)] at this
          refine ⟨_, ?_, hr _ _ _ h2 (List.getElem?_eq_getElem (by omega))⟩
          rw [← this, add_add, Nat.mul_comm, Nat.div_add_mod]
        have hlen0 : 0 < (flats (l.map f)).length := by
          rw [flats_len fun y hy => (huni y hy).1, List.length_map, hll]
          exact Nat.mul_pos (by omega) hs
        obtain ⟨u, hu, _⟩ := hcellat 0 _ (List.getElem?_eq_getElem hlen0)
        obtain ⟨b, off, rfl⟩ : ∃ b off, a = ⟨b, off, none⟩ := by
          obtain ⟨b, off, sp⟩ := a
          cases sp with
          | none => exact ⟨b, off, rfl⟩
          | some k =>
            simp only [Addr.add, if_true, World.cell?] at hu
            split at hu <;> simp at hu
        refine rel_sl_of (by simp [hll]) hl huni fun j y hj => ?_
        obtain ⟨u, hu, hr⟩ := hcellat j y hj
        have hadd : (Addr.mk b off none).add j = ⟨b, off + j, none⟩ := by
          unfold Addr.add
          split
          · rename_i e; subst e; rfl
          · rfl
        rw [hadd] at hu
        refine ⟨?_, u, hu, hr⟩
        show b < w.heap.size
        rcases Nat.lt_or_ge b w.heap.size with hlt | hlt
        · exact hlt
        · simp [World.cell?, Array.getElem?_eq_none hlt] at hu
theorem relAll_cons {w : World} {x : AV} {v : Value} {xs : List AV} {vs : List Value} (h : Rel (G₀ w) [] w x v) (k : RelAll (G₀ w) [] w xs vs.toArray) : RelAll (G₀ w) [] w (x :: xs) (v :: vs).toArray := ⟨by simpa using k.1, fun j y u e e' => by
  cases j with
  | zero => simp at e e'; subst e; subst e'; exact h
  | succ j => exact k.2 j y u (by simpa using e) (by simpa using e')⟩
theorem relAll_nil {w : World} : RelAll (G₀ w) [] w [] ([] : List Value).toArray := ⟨rfl, fun j y u e e' => by simp at e⟩
/-- A value that is one cell. -/
theorem rel_of_cells {w : World} {x : AV} {v : Value} (hx : x.flat = [x]) (hv : ∀ cs, v ≠ .agg cs) (h : RelC w x v.cells.toList) : Rel (G₀ w) [] w x v := by
  have hcv : v.cells.toList = [v] := by cases v <;> first | rfl | exact absurd rfl (hv _)
  rw [hcv] at h
  exact h.2.2 0 x v (by rw [hx]; rfl) rfl
theorem rel_of_agg {w : World} {xs : List AV} {cs : Array Value} (h : RelC w (.agg xs) (Value.agg cs).cells.toList) : Rel (G₀ w) [] w (.agg xs) (.agg cs) :=
  .agg _ _ (by have := h.2.1; simpa [AV.flat, Value.cells] using this.symm) fun j x v e e' => h.2.2 j x v e (by simpa [Value.cells] using e')
end
def isAggD : TypeDesc → Bool
  | .struct _ | .array _ _ => true
  | _ => false
theorem no_agg {P : Program} {w : World} {base : Nat} {t : TypeId} {d : TypeDesc} {cs : Array Value} (hd : P.underlying t = some d) (h : isAggD d = false) (k : Value.okWide P w .any base t (.agg cs)) : False := by
  unfold Value.okWide at k
  rw [hd] at k
  cases d <;> simp [isAggD] at h <;> simp [Cell.okWide, Cell.ok, hd] at k
end Go.Proofs.YtplmbhjhihoneaaGreatDoor.V
end

section
set_option linter.unusedSimpArgs false
set_option linter.unusedVariables false
namespace Go.Proofs.YtplmbhjhihoneaaGreatDoor.V
open Go

/-- Values in which the object k is written no more. -/
inductive Frz1 (H : List AObj) (k : Nat) : AV → AV → Prop
  | keep (x : AV) : Frz1 H k x x
  | any (x : AV) : Frz1 H k x .any
  | row (len s : Nat) (sh : Shape) (cs xs : List AV) (ho : H[k]? = some (.cells sh cs)) (hx : xs.length = len) (hs : ∀ x ∈ xs, x.flat.length = s ∧ x.okv = true) (hl : (flats xs).length ≤ cs.length)
      (h : ∀ (j : Nat) c y, cs[j]? = some c → (flats xs)[j]? = some y → Frz1 H k c y) : Frz1 H k (.mrow k len) (.sl .sh s xs)
  | msl (off len cap s : Nat) (sh : Shape) (cs xs : List AV) (ho : H[k]? = some (.cells sh cs)) (hx : xs.length = len) (hs : ∀ x ∈ xs, x.flat.length = s ∧ x.okv = true) (hl : off + (flats xs).length ≤ cs.length)
      (h : ∀ (j : Nat) c y, cs[off + j]? = some c → (flats xs)[j]? = some y → Frz1 H k c y) : Frz1 H k (.msl k off len cap) (.sl .sh s xs)
  | mp (off : Nat) (sh : Shape) (cs : List AV) (x : AV) (ho : H[k]? = some (.cells sh cs)) (hl : off + x.flat.length ≤ cs.length)
      (h : ∀ (j : Nat) c y, cs[off + j]? = some c → x.flat[j]? = some y → Frz1 H k c y) : Frz1 H k (.mp k off) (.ip x)
  | agg (cs ds : List AV) (hl : ds.length = cs.length) (h : ∀ (j : Nat) c d, cs[j]? = some c → ds[j]? = some d → Frz1 H k c d) : Frz1 H k (.agg cs) (.agg ds)
  | tup (cs ds : List AV) (hl : ds.length = cs.length) (h : ∀ (j : Nat) c d, cs[j]? = some c → ds[j]? = some d → Frz1 H k c d) : Frz1 H k (.tup cs) (.tup ds)
  | ifc (t : TypeId) (x y : AV) (h : Frz1 H k x y) : Frz1 H k (.ifc t x) (.ifc t y)
def fr1G (G : Gh) (k : Nat) : Gh := { G with imm := fun b off => G.imm b off ∨ b = G.blk k }
theorem fr1_inv {G : Gh} {H : List AObj} {w : World} (hi : HInv G H w) {k : Nat} {sh : Shape} {cs : List AV} (hk : H[k]? = some (.cells sh cs)) : HInv (fr1G G k) (H.set k .gone) w ∧ Step G H w (fr1G G k) (H.set k .gone) w := by
  obtain ⟨hi1, st1⟩ := retire hi hk
  have st2 : Step G (H.set k .gone) w (fr1G G k) (H.set k .gone) w := ⟨rfl, rfl, rfl, Nat.le_refl _, fun _ _ h => .inl h, fun _ _ _ => rfl, fun _ _ => rfl, fun i => by
    cases e : (H.set k AObj.gone)[i]? with
    | none => trivial
    | some o =>
      cases o with
      | cells t c => exact ⟨⟨_, e, rfl⟩, rfl, rfl⟩
      | gone => exact ⟨⟨_, e, rfl⟩, rfl, rfl⟩
      | grow s n t => exact ⟨n, e, Nat.le_refl _, fun _ => rfl⟩⟩
  have hsk : site G H k = some (G.blk k) := shape_of hi hk
  refine ⟨⟨fun b off h => ?_, fun i sh1 c ei => ?_, fun i s n t ei => ?_, hi1.apart, hi1.tabs.step st2⟩, st1.trans st2⟩
  · rcases h with h | h
    · exact hi.lt b off h
    · have h : b = G.blk k := h
      rw [h]
      exact hi.site_lt hsk
  · obtain ⟨arr, T, fr, hb, hs, hr, hf1, hf2⟩ := hi1.cells i sh1 c ei
    refine ⟨arr, T, fr, hb, hs, fun j x v ex ev => (hr j x v ex ev).mono st2, fun off h => ?_, hf2⟩
    rcases h with h | h
    · exact hf1 off h
    · have h : G.blk i = G.blk k := h
      rcases get_set ei with ⟨hik, ei'⟩ | ⟨_, ei', _⟩
      · exact hik (hi.apart i k (G.blk k) (by simp [site, ei', h]) hsk)
      · cases ei'
  · rcases get_set ei with ⟨hik, ei'⟩ | ⟨_, ei', _⟩
    · obtain ⟨h0, h1, h2, h3⟩ := hi1.grow i s n t ei
      have hne : ∀ b off, (G.own i).1 = some ⟨b, off, none⟩ → (n < (G.own i).2 ∨ t.isSome = true ∧ 0 < (G.own i).2) → b ≠ G.blk k := fun b off ea hc e => by
        refine hik (hi.apart i k (G.blk k) ?_ hsk)
        unfold site
        rw [ei', show G.own i = (some ⟨b, off, none⟩, (G.own i).2) by rw [← ea]]
        simp only
        rw [if_pos hc, e]
      refine ⟨h0, h1, fun hn => ?_, typedOk_keep h3 rfl (Nat.le_refl _) (fun b arr e fr hb => ⟨arr, hb, rfl⟩) fun b off arr e fr hb ea hc ht hx _ => ?_⟩
      · obtain ⟨b, off, arr, T, fr, ea, hb, hsz, hj⟩ := h2 hn
        refine ⟨b, off, arr, T, fr, ea, hb, hsz, fun j h4 h5 => ⟨?_, (hj j h4 h5).2⟩⟩
        rintro (h | h)
        · exact (hj j h4 h5).1 h
        · exact hne b off ea (.inl hn) h
      · rcases hx with hx | hx
        · exact hx
        · exact absurd hx (hne b 0 ea (.inr ⟨ht, hc⟩))
    · cases ei'
theorem fr1_rel {G : Gh} {H : List AObj} {w : World} (hi : HInv G H w) {k : Nat} {sh : Shape} {cs : List AV} (hk : H[k]? = some (.cells sh cs)) {x y : AV} (f : Frz1 H k x y) : ∀ v, Rel G H w x v → Rel (fr1G G k) (H.set k .gone) w y v := by
  obtain ⟨_, st⟩ := fr1_inv hi hk
  have cell : ∀ sh cs, H[k]? = some (.cells sh cs) → ∃ arr : Array Value, cs.length ≤ arr.size ∧ (∀ (j : Nat) x v, cs[j]? = some x → arr[j]? = some v → Rel G H w x v) ∧ ∀ j, (fr1G G k).imm (G.blk k) j ∧ w.cell? ⟨G.blk k, j, none⟩ = arr[j]? := fun sh cs ho => by
    obtain ⟨arr, T, fr, hb, hsz, hr, _⟩ := hi.cells k sh cs ho
    exact ⟨arr, hsz, hr, fun j => ⟨.inr rfl, cell_row hb⟩⟩
  induction f with
  | keep x => intro v r; exact r.mono st
  | any x => intro v r; exact .any v
  | row len s sh cs xs ho hx hs hl h ih =>
    intro v r
    obtain ⟨arr, hsz, hr, hc⟩ := cell _ cs ho
    cases r with
    | mrow _ _ o h1 h2 hcap =>
      refine .sl .sh s xs _ _ _ (fun j => (arr[j]?).getD undef) hx.symm hcap hs (fun j y e => ?_) (fun j y e => ?_) (fun e => by cases e) (fun _ => rfl) (fun k e => by cases e)
      · have hj := lt_of_get e
        have ha : arr[j]? = some (arr[j]'(by omega)) := Array.getElem?_eq_getElem _
        refine ⟨G.blk k, 0, rfl, ?_, ?_⟩
        · rw [Nat.zero_add]; exact (hc j).1
        · rw [Nat.zero_add, (hc j).2, ha]; rfl
      · have hj := lt_of_get e
        have ha : arr[j]? = some (arr[j]'(by omega)) := Array.getElem?_eq_getElem _
        have hcj : cs[j]? = some (cs[j]'(by omega)) := List.getElem?_eq_getElem _
        have := ih j _ y hcj e _ (hr j _ _ hcj ha)
        rw [ha]
        exact this
  | msl off len cap s sh cs xs ho hx hs hl h ih =>
    intro v r
    obtain ⟨arr, hsz, hr, hc⟩ := cell _ cs ho
    cases r with
    | msl _ _ _ _ o h1 h2 hcap =>
      refine .sl .sh s xs _ _ _ (fun j => (arr[off + j]?).getD undef) hx.symm hcap hs (fun j y e => ?_) (fun j y e => ?_) (fun e => by cases e) (fun _ => rfl) (fun k e => by cases e)
      · have hj := lt_of_get e
        have ha : arr[off + j]? = some (arr[off + j]'(by omega)) := Array.getElem?_eq_getElem _
        refine ⟨G.blk k, off, rfl, (hc _).1, ?_⟩
        rw [(hc _).2, ha]; rfl
      · have hj := lt_of_get e
        have ha : arr[off + j]? = some (arr[off + j]'(by omega)) := Array.getElem?_eq_getElem _
        have hcj : cs[off + j]? = some (cs[off + j]'(by omega)) := List.getElem?_eq_getElem _
        have := ih j _ y hcj e _ (hr _ _ _ hcj ha)
        rw [ha]
        exact this
  | mp off sh cs x ho hl h ih =>
    intro v r
    obtain ⟨arr, hsz, hr, hc⟩ := cell _ cs ho
    cases r with
    | mp _ _ o h1 h2 =>
      refine .ip x _ _ (fun j => (arr[off + j]?).getD undef) (fun j y e => ?_) (fun j y e => ?_)
      · have hj := lt_of_get e
        have ha : arr[off + j]? = some (arr[off + j]'(by omega)) := Array.getElem?_eq_getElem _
        refine ⟨(hc _).1, ?_⟩
        rw [(hc _).2, ha]; rfl
      · have hj := lt_of_get e
        have ha : arr[off + j]? = some (arr[off + j]'(by omega)) := Array.getElem?_eq_getElem _
        have hcj : cs[off + j]? = some (cs[off + j]'(by omega)) := List.getElem?_eq_getElem _
        have := ih j _ y hcj e _ (hr _ _ _ hcj ha)
        rw [ha]
        exact this
  | agg cs ds hl h ih =>
    intro v r
    cases r with
    | agg _ arr ha hr =>
      refine .agg ds arr (ha.trans hl.symm) fun j y u e e' => ?_
      have hj := lt_of_get e
      have hcj : cs[j]? = some (cs[j]'(by omega)) := List.getElem?_eq_getElem _
      exact ih j _ y hcj e _ (hr j _ u hcj e')
  | tup cs ds hl h ih =>
    intro v r
    cases r with
    | tup _ arr ha hr =>
      refine .tup ds arr (ha.trans hl.symm) fun j y u e e' => ?_
      have hj := lt_of_get e
      have hcj : cs[j]? = some (cs[j]'(by omega)) := List.getElem?_eq_getElem _
      exact ih j _ y hcj e _ (hr j _ u hcj e')
  | ifc t x y h ih =>
    intro v r
    cases r with
    | ifc _ _ u hr => exact .ifc t y u (ih u hr)
theorem ends_fr1 {H₀ H : List AObj} {x x' y : AV} {k : Nat} {sh : Shape} {cs : List AV} (hle : Le x x') (hk : H[k]? = some (.cells sh cs)) (f : Frz1 H k x' y) : Ends H₀ x H y (H.set k .gone) := fun G₀ w₀ G w v h0 hi hs r => by
  obtain ⟨hi', st⟩ := fr1_inv hi hk
  exact ⟨_, hi', hs.trans st, fr1_rel hi hk f v (hle _ _ _ _ r)⟩
/-- An object's cells, told anew. -/
theorem reshape {G : Gh} {H : List AObj} {w : World} (hi : HInv G H w) {k : Nat} {sh : Shape} {cs : List AV} (hk : H[k]? = some (.cells sh cs)) {cs' : List AV} {sh' : Shape} {arr : Array Value} {T : TypeId} {fr : Nat × Nat}
    (hb : w.heap[G.blk k]? = some (.cells arr T fr)) (hr : RelLe G H w cs' arr) (hsh : shapeOk G k sh' cs'.length T arr.size fr) :
    HInv G (H.set k (.cells sh' cs')) w ∧ Step G H w G (H.set k (.cells sh' cs')) w := by
  have hkl := lt_of_get hk
  obtain ⟨arr0, T0, fr0, hb0, hs0, hr0, hf1, hf2, _⟩ := hi.cells k sh cs hk
  rw [hb] at hb0
  cases hb0
  have st : Step G H w G (H.set k (.cells sh' cs')) w := by
    refine ⟨rfl, rfl, rfl, Nat.le_refl _, fun _ _ h => h, fun _ _ _ => rfl, fun _ _ => rfl, fun i => ?_⟩
    cases ei : H[i]? with
    | none => trivial
    | some o =>
      by_cases hik : i = k
      · subst hik
        rw [hk] at ei
        cases ei
        exact ⟨⟨_, by simp [hkl]; rfl, rfl⟩, rfl, rfl⟩
      · have ea : (H.set k (.cells sh' cs'))[i]? = some o := by rw [List.getElem?_set_ne (fun h => hik h.symm)]; exact ei
        cases o with
        | cells t c => exact ⟨⟨_, ea, rfl⟩, rfl, rfl⟩
        | gone => exact ⟨⟨_, ea, rfl⟩, rfl, rfl⟩
        | grow s n t => exact ⟨n, ea, Nat.le_refl _, fun _ => rfl⟩
  refine ⟨⟨hi.lt, fun i sh1 c ei => ?_, fun i s n t ei => ?_, fun i j b e1 e2 => ?_, hi.tabs⟩, st⟩
  · rcases get_set ei with ⟨hik, ei'⟩ | ⟨rfl, ei', _⟩
    · obtain ⟨arr1, T1, fr1, hb1, hs1, hr1, hg⟩ := hi.cells i sh1 c ei'
      exact ⟨arr1, T1, fr1, hb1, hs1, fun j x v ex ev => (hr1 j x v ex ev).mono st, hg⟩
    · cases ei'
      exact ⟨arr, T, fr, hb, hr.1, fun j x v ex ev => (hr.2 j x v ex ev).mono st, hf1, hf2, hsh⟩
  · rcases get_set ei with ⟨hik, ei'⟩ | ⟨_, ei', _⟩
    · exact hi.grow i s n t ei'
    · cases ei'
  · have hs : ∀ i b, site G (H.set k (.cells sh' cs')) i = some b → site G H i = some b := fun i b e => by
      unfold site at e ⊢
      cases ei : (H.set k (AObj.cells sh' cs'))[i]? with
      | none => rw [ei] at e; cases e
      | some o =>
        rw [ei] at e
        rcases get_set ei with ⟨_, ei'⟩ | ⟨rfl, ei', _⟩
        · rw [ei']; exact e
        · subst ei'; rw [hk]; exact e
    exact hi.apart i j b (hs i b e1) (hs j b e2)
/-- A row, with its capacity told. -/
theorem open_row {G : Gh} {H : List AObj} {w : World} (hi : HInv G H w) {k n s : Nat} {cs : List AV} (hk : H[k]? = some (.cells (.prow s) cs)) (hl : cs.length = n * s) {v : Value} (r : Rel G H w (.mrow k n) v) :
    ∃ T cap, n ≤ cap ∧ HInv G (H.set k (.cells (.one T) (cs ++ List.replicate ((cap - n) * s) .any))) w ∧ Step G H w G (H.set k (.cells (.one T) (cs ++ List.replicate ((cap - n) * s) .any))) w ∧ Rel G (H.set k (.cells (.one T) (cs ++ List.replicate ((cap - n) * s) .any))) w (.msl k 0 n cap) v := by
  have hkl := lt_of_get hk
  obtain ⟨arr, T, fr, hb, hsz, hr, hf1, hf2, hf3⟩ := hi.cells k _ cs hk
  have hasz : arr.size = (G.own k).2 * s := hf3.2.1
  cases r with
  | mrow _ _ o0 hk0 hb0 hcap =>
  have hsz' : (cs ++ List.replicate (((G.own k).2 - n) * s) AV.any).length = arr.size := by
    rw [List.length_append, List.length_replicate, hl, hasz, ← Nat.add_mul]
    congr 1
    omega
  have hrel : RelLe G H w (cs ++ List.replicate (((G.own k).2 - n) * s) .any) arr := by
    refine ⟨Nat.le_of_eq hsz', fun j x v e1 e2 => ?_⟩
    by_cases hj : j < cs.length
    · rw [List.getElem?_append_left hj] at e1
      exact hr j x v e1 e2
    · rw [List.getElem?_append_right (by omega), List.getElem?_replicate] at e1
      split at e1
      · cases e1; exact .any _
      · cases e1
  obtain ⟨hi', st⟩ := reshape hi hk hb hrel (sh' := .one T) ⟨rfl, hsz'.symm, hf3.2.2⟩
  exact ⟨T, (G.own k).2, hcap, hi', st, .msl k 0 n _ _ (by simp [hkl]; rfl) rfl hcap⟩
theorem acalls_open {P : Program} {f : FuncId} {xs1 bs : List AV} {H : List AObj} {R : AV → List AObj → Prop} {k n s : Nat} {cs : List AV} (hk : H[k]? = some (.cells (.prow s) cs)) (hl : cs.length = n * s)
    (h : ∀ T cap, n ≤ cap → ACalls P f (xs1 ++ .msl k 0 n cap :: bs) (H.set k (.cells (.one T) (cs ++ List.replicate ((cap - n) * s) .any))) R) : ACalls P f (xs1 ++ .mrow k n :: bs) H R := fun G w vs hi ha => by
  obtain ⟨v, hv⟩ : ∃ v, vs[xs1.length]? = some v := ⟨_, Array.getElem?_eq_getElem (by rw [ha.1]; simp)⟩
  obtain ⟨T, cap, hc, hi', st, r⟩ := open_row hi hk hl (ha.2 xs1.length _ v (by simp) hv)
  refine (h T cap hc G w vs hi' ⟨by rw [ha.1]; simp, fun j y u ey ev => ?_⟩).mono ?_
  · rcases Nat.lt_trichotomy j xs1.length with hj | rfl | hj
    · rw [List.getElem?_append_left hj] at ey
      exact (ha.2 j y u (by rw [List.getElem?_append_left hj]; exact ey) ev).mono st
    · rw [List.getElem?_append_right (Nat.le_refl _), Nat.sub_self] at ey
      simp at ey
      subst ey
      rw [hv] at ev
      cases ev
      exact r
    · obtain ⟨i, rfl⟩ : ∃ i, j = xs1.length + (i + 1) := ⟨j - xs1.length - 1, by omega⟩
      rw [List.getElem?_append_right (by omega), Nat.add_sub_cancel_left, List.getElem?_cons_succ] at ey
      exact (ha.2 _ y u (by rw [List.getElem?_append_right (by omega), Nat.add_sub_cancel_left, List.getElem?_cons_succ]; exact ey) ev).mono st
  · rintro v w' ⟨x, G', H', h1, h2, h3, h4⟩
    exact ⟨x, G', H', h1, st.trans h2, h3, h4⟩
/-- The end of a function that leaves an object which is written no more. -/
theorem done_fr1 {H₀ H H' : List AObj} {R : AV → List AObj → Prop} {x y : AV} {k : Nat} {sh : Shape} {cs : List AV} (hk : H[k]? = some (.cells sh cs)) (f : Frz1 H k x y) (hr : Done H₀ R y (H.set k .gone)) : Done H₀ R x H := by
  unfold Done at hr ⊢
  obtain ⟨z, H'', he, hR⟩ := hr
  exact ⟨z, H'', ends_trans (ends_fr1 (Le.refl x) hk f) he, hR⟩
end Go.Proofs.YtplmbhjhihoneaaGreatDoor.V
end

section
set_option linter.unusedSimpArgs false
set_option linter.unusedVariables false
namespace Go.Proofs.YtplmbhjhihoneaaGreatDoor.V
open Go
theorem ofInt_nat {w x : Nat} (hx : x < 2 ^ w) : (BitVec.ofInt w (x : Int)).toNat = x := by
  rw [BitVec.ofInt_natCast, BitVec.toNat_ofNat, Nat.mod_eq_of_lt hx]
theorem bv_or {w x y : Nat} (hx : x < 2 ^ w) (hy : y < 2 ^ w) : (BitVec.ofInt w (x : Int) ||| BitVec.ofInt w (y : Int)).toNat = x ||| y := by
  rw [BitVec.toNat_or, ofInt_nat hx, ofInt_nat hy]
theorem bv_and {w x y : Nat} (hx : x < 2 ^ w) (hy : y < 2 ^ w) : (BitVec.ofInt w (x : Int) &&& BitVec.ofInt w (y : Int)).toNat = x &&& y := by
  rw [BitVec.toNat_and, ofInt_nat hx, ofInt_nat hy]
theorem wrap_nat_u64 {x : Nat} (hx : x < 2 ^ 64) : IntKind.u64.wrap (x : Int) = x := IntWalk.u64_in _ (by omega)
theorem wrap_nat_u8 {x : Nat} (hx : x < 2 ^ 8) : IntKind.u8.wrap (x : Int) = x := IntWalk.u8_in _ (by omega)
theorem or_u64 {x y : Nat} (hx : x < 2 ^ 64) (hy : y < 2 ^ 64) : IntKind.u64.wrap ((BitVec.ofInt IntKind.u64.bits (x : Int) ||| BitVec.ofInt IntKind.u64.bits (y : Int)).toNat : Int) = ((x ||| y : Nat) : Int) := by
  show IntKind.u64.wrap ((BitVec.ofInt 64 (x : Int) ||| BitVec.ofInt 64 (y : Int)).toNat : Int) = _
  rw [bv_or hx hy, wrap_nat_u64 (Nat.or_lt_two_pow hx hy)]
theorem and_u64 {x y : Nat} (hx : x < 2 ^ 64) (hy : y < 2 ^ 64) : IntKind.u64.wrap ((BitVec.ofInt IntKind.u64.bits (x : Int) &&& BitVec.ofInt IntKind.u64.bits (y : Int)).toNat : Int) = ((x &&& y : Nat) : Int) := by
  show IntKind.u64.wrap ((BitVec.ofInt 64 (x : Int) &&& BitVec.ofInt 64 (y : Int)).toNat : Int) = _
  rw [bv_and hx hy, wrap_nat_u64 (Nat.and_lt_two_pow _ hy)]
end Go.Proofs.YtplmbhjhihoneaaGreatDoor.V
end
