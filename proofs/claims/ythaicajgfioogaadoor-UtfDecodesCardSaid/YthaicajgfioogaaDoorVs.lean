/- The rules as a set. -/
import Derived.Test.YthaicajgfioogaaDoorVo
set_option linter.unusedSimpArgs false
set_option linter.unusedVariables false
namespace Go.Proofs.YthaicajgfioogaaDoor.V
open Go
attribute [go_sem ↓] c_skip
attribute [go_sem ↓] c_seq
attribute [go_sem ↓] c_cond
attribute [go_sem ↓] c_block
attribute [go_sem ↓] c_exit
attribute [go_sem ↓] c_ret
attribute [go_sem ↓] c_region
attribute [go_sem ↓] c_draw
attribute [go_sem ↓] c_loop
attribute [go_sem ↓] ex_normal
attribute [go_sem ↓] ex_exit
attribute [go_sem ↓] ex_ret
attribute [go_sem ↓] in_normal
attribute [go_sem ↓] in_exit
attribute [go_sem ↓] in_ret
attribute [go_sem ↓] b_ret
attribute [go_sem ↓] b_normal
attribute [go_sem ↓] o_nil
attribute [go_sem ↓] o_cons
attribute [go_sem ↓] o_guard
attribute [go_sem ↓] d_nil
attribute [go_sem ↓] d_cons
attribute [go_sem ↓] d_guard
attribute [go_sem ↓] gv_zero
attribute [go_sem ↓] gv_succ
attribute [go_sem ↓] kn_zero
attribute [go_sem ↓] kn_succ
attribute [go_sem ↓] op_move
attribute [go_sem ↓] op_assign
attribute [go_sem ↓] op_pick
attribute [go_sem ↓] op_bin
attribute [go_sem ↓] op_un
attribute [go_sem ↓] op_conv
attribute [go_sem ↓] op_extract
attribute [go_sem ↓] op_indexAddr
attribute [go_sem ↓] op_index
attribute [go_sem ↓] op_load
attribute [go_sem ↓] op_slice
attribute [go_sem ↓] op_fieldAddr
attribute [go_sem ↓] op_field
attribute [go_sem ↓] op_build
attribute [go_sem ↓] op_buildSlice
attribute [go_sem ↓] op_box
attribute [go_sem ↓] op_alloc
attribute [go_sem ↓] op_store
attribute [go_sem ↓] op_callv
attribute [go_sem ↓] op_callb
attribute [go_sem ↓] od_move
attribute [go_sem ↓] od_assign
attribute [go_sem ↓] od_pick
attribute [go_sem ↓] od_bin
attribute [go_sem ↓] od_un
attribute [go_sem ↓] od_conv
attribute [go_sem ↓] od_extract
attribute [go_sem ↓] od_indexAddr
attribute [go_sem ↓] od_index
attribute [go_sem ↓] od_load
attribute [go_sem ↓] od_slice
attribute [go_sem ↓] od_fieldAddr
attribute [go_sem ↓] od_field
attribute [go_sem ↓] od_build
attribute [go_sem ↓] od_buildSlice
attribute [go_sem ↓] od_box
attribute [go_sem ↓] od_callv
attribute [go_sem ↓] od_callb
attribute [go_sem ↓] call_fn0
attribute [go_sem ↓] call_fn
attribute [go_sem ↓] calld_fn0
attribute [go_sem ↓] b_len
attribute [go_sem ↓] b_append
attribute [go_sem ↓] bd_len
attribute [go_sem ↓] put_some
attribute [go_sem ↓] put_none
attribute [go_sem ↓] ev_tmp
attribute [go_sem ↓] ev_const
attribute [go_sem ↓] ev_func
attribute [go_sem ↓] get_cons
attribute [go_sem ↓] lift_some
attribute [go_sem ↓] lift_none
attribute [go_sem ↓] liftD_some
attribute [go_sem ↓] liftD_none
attribute [go_sem ↓] ev_global
attribute [go_sem ↓] oe_move
attribute [go_sem ↓] oe_assign
attribute [go_sem ↓] oe_pick
attribute [go_sem ↓] oe_bin
attribute [go_sem ↓] oe_un
attribute [go_sem ↓] oe_conv
attribute [go_sem ↓] oe_extract
attribute [go_sem ↓] oe_indexAddr
attribute [go_sem ↓] oe_index
attribute [go_sem ↓] oe_load
attribute [go_sem ↓] oe_slice
attribute [go_sem ↓] oe_fieldAddr
attribute [go_sem ↓] oe_field
attribute [go_sem ↓] oe_build
attribute [go_sem ↓] oe_buildSlice
attribute [go_sem ↓] oe_box
attribute [go_sem ↓] oe_alloc
attribute [go_sem ↓] oe_store
attribute [go_sem ↓] oe_callv
attribute [go_sem ↓] oe_append
attribute [go_sem ↓] oe_len
attribute [go_sem ↓] ch_nil
attribute [go_sem ↓] ch_cons
attribute [go_sem ↓] ch_guard
attribute [go_sem ↓] kept_cons
attribute [go_sem 100] fdiv_pos
attribute [go_sem] tdiv_pos tmod_pos u8_and63 u8_and31 u8_and15 u8_and7 u8_or128 u8_or192 u8_or224 u8_or240
attribute [go_sem] i32_or6 i32_or12 i32_or18 acc0 acc1 acc2 acc3 acc4
attribute [go_sem] h_at0 h_atk h_set0 h_setk h_left h_setl kept_nil fin_eq finL_some rl_nil rl_cons rlCons_some r_tmp r_cell rt_one rt_two rt_nil get_cons' get_nil of_int of_bool of_str of_nil vcGuard_u undef vcGuard_tt vcGuard_ff vcGuard_tf vcGuard_ft vcGuard_b vcGuard_b' vcIf_true
attribute [go_sem] vcIf_false vcIf_bool decide_eq_true_eq decide_eq_false_iff_not Bool.not_eq_true' Bool.not_eq_false' Decidable.not_not Int.not_lt Int.not_le initEnv qTrue qPick qUn' qUn qLen' qLen qExtract qBox qBin isShift intBin intShift strBin boolBin qIndexAddr
attribute [go_sem] qIndex qLoad okLoad okGet getPart qSlice numOr evO qFieldAddr qField qConv qBuild qBuildSlice evParts afill aset regroup zeroFlat AV.flat AV.okv AV.scalar Value.oneCell' TK.agg known srcKind
attribute [go_sem] app_bytes app_runes canAppend Array.size_empty Option.some.injEq AObj.grow.injEq drop_bytes take_bytes take_len getD_drop' List.drop_drop List.length_drop List.length_take min_left fdiv_nat bits_u8 bits_u16 bits_u32 bits_u64 bits_i8 bits_i16 bits_i32 bits_i64 List.getD_cons_zero List.getD_cons_succ
attribute [go_sem] List.set_cons_zero List.set_cons_succ Int.cast_ofNat_Int List.nil_append List.append_nil List.cons_append byte_lt byte_lt' byte_ge firstAV_len first_at acceptAV_len accept_at take_all isBytes_eq unbytes_map getD_bytes getD_runes byte_u8 byte_i32 byte_i64 byte_u32 byte_u64 getD_left h_set
attribute [go_sem] List.length_map List.length_append List.length_replicate List.append_assoc IntWalk.i64_in IntWalk.i32_in IntWalk.u8_in IntWalk.u32_in IntWalk.u64_in vcAppend vcStore vcMut vcBytes qConvH List.contains_nil List.contains_cons Option.getD_some Option.getD_none Bool.or_false Bool.false_or Bool.or_true Bool.true_or beq_self_eq_true srcAV appRes
attribute [go_sem] Option.map_some Option.map_none Option.isSome_some Option.isSome_none List.map_cons List.map_nil List.toList_toArray List.getElem?_cons_zero List.getElem?_cons_succ List.all_cons List.all_nil Bool.and_self Bool.and_true Bool.true_and Bool.not_true Bool.not_false true_and and_true false_and and_false ne_eq not_true_eq_false not_false_eq_true if_true if_false
attribute [go_sem] Bool.false_eq_true forall_const eq_self decide_true decide_false true_implies implies_true false_implies ite_self Nat.zero_add Nat.mul_one List.drop_zero Int.toNat_natCast Int.toNat_zero Int.toNat_one List.length_cons List.length_nil List.range_succ List.range_zero
end Go.Proofs.YthaicajgfioogaaDoor.V
