/- The table of types of the program, as abstract layouts: written by gen_tab.py, checked by the kernel. -/
import Derived.Test.YthaicajgfioogaaDoorVs
import Derived.Test.YthaicajgfioogaaDoorChecked
set_option linter.unusedSimpArgs false
set_option linter.unusedVariables false
namespace Go.Proofs.YthaicajgfioogaaDoor.V
open Go
def tbl : List LT := [
  ltOther,
  ⟨.one, 1, 8, [.lit .nilFunc]⟩,
  ⟨.int .i64, 1, 8, [.lit (.int .i64 0)]⟩,
  ⟨.int .i64, 1, 8, [.lit (.int .i64 0)]⟩,
  ⟨.bool, 1, 1, [.lit (.bool false)]⟩,
  ⟨.int .u8, 1, 1, [.lit (.int .u8 0)]⟩,
  ⟨.int .u8, 1, 1, [.lit (.int .u8 0)]⟩,
  ⟨.struct [(0, 2), (1, 3), (2, 4), (3, 6)], 4, 24, [.lit (.int .i64 0), .lit (.int .i64 0), .lit (.bool false), .lit (.int .u8 0)]⟩,
  ⟨.struct [(0, 2), (1, 3), (2, 4), (3, 6)], 4, 24, [.lit (.int .i64 0), .lit (.int .i64 0), .lit (.bool false), .lit (.int .u8 0)]⟩,
  ⟨.str, 1, 16, [.str []]⟩,
  ⟨.str, 1, 16, [.str []]⟩,
  ⟨.str, 1, 16, [.str []]⟩,
  ⟨.int .u64, 1, 8, [.lit (.int .u64 0)]⟩,
  ⟨.struct [(0, 9), (1, 12)], 2, 24, [.str [], .lit (.int .u64 0)]⟩,
  ⟨.struct [(0, 9), (1, 12)], 2, 24, [.str [], .lit (.int .u64 0)]⟩,
  ⟨.ptr 59, 1, 8, [.lit (.pointer none)]⟩,
  ⟨.ptr 62, 1, 8, [.lit (.pointer none)]⟩,
  ⟨.ptr 71, 1, 8, [.lit (.pointer none)]⟩,
  ⟨.struct [(0, 17)], 1, 8, [.lit (.pointer none)]⟩,
  ⟨.struct [(0, 17)], 1, 8, [.lit (.pointer none)]⟩,
  ⟨.one, 1, 16, [.lit .nilIface]⟩,
  ⟨.int .i32, 1, 4, [.lit (.int .i32 0)]⟩,
  ⟨.slice 5, 1, 24, [.sl .full 0 []]⟩,
  ⟨.one, 1, 8, [.lit .nilFunc]⟩,
  ⟨.slice 21, 1, 24, [.sl .full 0 []]⟩,
  ⟨.int .i64, 1, 8, [.lit (.int .i64 0)]⟩,
  ltOther,
  ⟨.one, 1, 8, [.lit .nilFunc]⟩,
  ⟨.one, 1, 8, [.lit .nilFunc]⟩,
  ⟨.one, 1, 8, [.lit .nilFunc]⟩,
  ⟨.one, 1, 8, [.lit .nilFunc]⟩,
  ⟨.one, 1, 8, [.lit .nilFunc]⟩,
  ⟨.one, 1, 8, [.lit .nilFunc]⟩,
  ltOther,
  ⟨.one, 1, 8, [.lit .nilFunc]⟩,
  ⟨.one, 1, 8, [.lit .nilFunc]⟩,
  ⟨.one, 1, 8, [.lit .nilFunc]⟩,
  ltOther,
  ⟨.one, 1, 8, [.lit .nilFunc]⟩,
  ⟨.one, 1, 8, [.lit .nilFunc]⟩,
  ltOther,
  ⟨.one, 1, 8, [.lit .nilFunc]⟩,
  ⟨.one, 1, 8, [.lit .nilFunc]⟩,
  ⟨.one, 1, 8, [.lit .nilFunc]⟩,
  ⟨.one, 1, 8, [.lit .nilFunc]⟩,
  ltOther,
  ⟨.one, 1, 8, [.lit .nilFunc]⟩,
  ⟨.one, 1, 8, [.lit .nilFunc]⟩,
  ⟨.int .u32, 1, 4, [.lit (.int .u32 0)]⟩,
  ⟨.one, 1, 8, [.lit .nilFunc]⟩,
  ⟨.one, 1, 8, [.lit .nilFunc]⟩,
  ⟨.arr 256 5, 256, 256, [.lit (.int .u8 0), .lit (.int .u8 0), .lit (.int .u8 0), .lit (.int .u8 0), .lit (.int .u8 0), .lit (.int .u8 0), .lit (.int .u8 0), .lit (.int .u8 0), .lit (.int .u8 0), .lit (.int .u8 0), .lit (.int .u8 0), .lit (.int .u8 0), .lit (.int .u8 0), .lit (.int .u8 0), .lit (.int .u8 0), .lit (.int .u8 0), .lit (.int .u8 0), .lit (.int .u8 0), .lit (.int .u8 0), .lit (.int .u8 0), .lit (.int .u8 0), .lit (.int .u8 0), .lit (.int .u8 0), .lit (.int .u8 0), .lit (.int .u8 0), .lit (.int .u8 0), .lit (.int .u8 0), .lit (.int .u8 0), .lit (.int .u8 0), .lit (.int .u8 0), .lit (.int .u8 0), .lit (.int .u8 0), .lit (.int .u8 0), .lit (.int .u8 0), .lit (.int .u8 0), .lit (.int .u8 0), .lit (.int .u8 0), .lit (.int .u8 0), .lit (.int .u8 0), .lit (.int .u8 0), .lit (.int .u8 0), .lit (.int .u8 0), .lit (.int .u8 0), .lit (.int .u8 0), .lit (.int .u8 0), .lit (.int .u8 0), .lit (.int .u8 0), .lit (.int .u8 0), .lit (.int .u8 0), .lit (.int .u8 0), .lit (.int .u8 0), .lit (.int .u8 0), .lit (.int .u8 0), .lit (.int .u8 0), .lit (.int .u8 0), .lit (.int .u8 0), .lit (.int .u8 0), .lit (.int .u8 0), .lit (.int .u8 0), .lit (.int .u8 0), .lit (.int .u8 0), .lit (.int .u8 0), .lit (.int .u8 0), .lit (.int .u8 0), .lit (.int .u8 0), .lit (.int .u8 0), .lit (.int .u8 0), .lit (.int .u8 0), .lit (.int .u8 0), .lit (.int .u8 0), .lit (.int .u8 0), .lit (.int .u8 0), .lit (.int .u8 0), .lit (.int .u8 0), .lit (.int .u8 0), .lit (.int .u8 0), .lit (.int .u8 0), .lit (.int .u8 0), .lit (.int .u8 0), .lit (.int .u8 0), .lit (.int .u8 0), .lit (.int .u8 0), .lit (.int .u8 0), .lit (.int .u8 0), .lit (.int .u8 0), .lit (.int .u8 0), .lit (.int .u8 0), .lit (.int .u8 0), .lit (.int .u8 0), .lit (.int .u8 0), .lit (.int .u8 0), .lit (.int .u8 0), .lit (.int .u8 0), .lit (.int .u8 0), .lit (.int .u8 0), .lit (.int .u8 0), .lit (.int .u8 0), .lit (.int .u8 0), .lit (.int .u8 0), .lit (.int .u8 0), .lit (.int .u8 0), .lit (.int .u8 0), .lit (.int .u8 0), .lit (.int .u8 0), .lit (.int .u8 0), .lit (.int .u8 0), .lit (.int .u8 0), .lit (.int .u8 0), .lit (.int .u8 0), .lit (.int .u8 0), .lit (.int .u8 0), .lit (.int .u8 0), .lit (.int .u8 0), .lit (.int .u8 0), .lit (.int .u8 0), .lit (.int .u8 0), .lit (.int .u8 0), .lit (.int .u8 0), .lit (.int .u8 0), .lit (.int .u8 0), .lit (.int .u8 0), .lit (.int .u8 0), .lit (.int .u8 0), .lit (.int .u8 0), .lit (.int .u8 0), .lit (.int .u8 0), .lit (.int .u8 0), .lit (.int .u8 0), .lit (.int .u8 0), .lit (.int .u8 0), .lit (.int .u8 0), .lit (.int .u8 0), .lit (.int .u8 0), .lit (.int .u8 0), .lit (.int .u8 0), .lit (.int .u8 0), .lit (.int .u8 0), .lit (.int .u8 0), .lit (.int .u8 0), .lit (.int .u8 0), .lit (.int .u8 0), .lit (.int .u8 0), .lit (.int .u8 0), .lit (.int .u8 0), .lit (.int .u8 0), .lit (.int .u8 0), .lit (.int .u8 0), .lit (.int .u8 0), .lit (.int .u8 0), .lit (.int .u8 0), .lit (.int .u8 0), .lit (.int .u8 0), .lit (.int .u8 0), .lit (.int .u8 0), .lit (.int .u8 0), .lit (.int .u8 0), .lit (.int .u8 0), .lit (.int .u8 0), .lit (.int .u8 0), .lit (.int .u8 0), .lit (.int .u8 0), .lit (.int .u8 0), .lit (.int .u8 0), .lit (.int .u8 0), .lit (.int .u8 0), .lit (.int .u8 0), .lit (.int .u8 0), .lit (.int .u8 0), .lit (.int .u8 0), .lit (.int .u8 0), .lit (.int .u8 0), .lit (.int .u8 0), .lit (.int .u8 0), .lit (.int .u8 0), .lit (.int .u8 0), .lit (.int .u8 0), .lit (.int .u8 0), .lit (.int .u8 0), .lit (.int .u8 0), .lit (.int .u8 0), .lit (.int .u8 0), .lit (.int .u8 0), .lit (.int .u8 0), .lit (.int .u8 0), .lit (.int .u8 0), .lit (.int .u8 0), .lit (.int .u8 0), .lit (.int .u8 0), .lit (.int .u8 0), .lit (.int .u8 0), .lit (.int .u8 0), .lit (.int .u8 0), .lit (.int .u8 0), .lit (.int .u8 0), .lit (.int .u8 0), .lit (.int .u8 0), .lit (.int .u8 0), .lit (.int .u8 0), .lit (.int .u8 0), .lit (.int .u8 0), .lit (.int .u8 0), .lit (.int .u8 0), .lit (.int .u8 0), .lit (.int .u8 0), .lit (.int .u8 0), .lit (.int .u8 0), .lit (.int .u8 0), .lit (.int .u8 0), .lit (.int .u8 0), .lit (.int .u8 0), .lit (.int .u8 0), .lit (.int .u8 0), .lit (.int .u8 0), .lit (.int .u8 0), .lit (.int .u8 0), .lit (.int .u8 0), .lit (.int .u8 0), .lit (.int .u8 0), .lit (.int .u8 0), .lit (.int .u8 0), .lit (.int .u8 0), .lit (.int .u8 0), .lit (.int .u8 0), .lit (.int .u8 0), .lit (.int .u8 0), .lit (.int .u8 0), .lit (.int .u8 0), .lit (.int .u8 0), .lit (.int .u8 0), .lit (.int .u8 0), .lit (.int .u8 0), .lit (.int .u8 0), .lit (.int .u8 0), .lit (.int .u8 0), .lit (.int .u8 0), .lit (.int .u8 0), .lit (.int .u8 0), .lit (.int .u8 0), .lit (.int .u8 0), .lit (.int .u8 0), .lit (.int .u8 0), .lit (.int .u8 0), .lit (.int .u8 0), .lit (.int .u8 0), .lit (.int .u8 0), .lit (.int .u8 0), .lit (.int .u8 0), .lit (.int .u8 0), .lit (.int .u8 0), .lit (.int .u8 0), .lit (.int .u8 0), .lit (.int .u8 0), .lit (.int .u8 0), .lit (.int .u8 0), .lit (.int .u8 0), .lit (.int .u8 0)]⟩,
  ⟨.struct [(0, 5), (1, 5)], 2, 2, [.lit (.int .u8 0), .lit (.int .u8 0)]⟩,
  ⟨.struct [(0, 5), (1, 5)], 2, 2, [.lit (.int .u8 0), .lit (.int .u8 0)]⟩,
  ⟨.arr 16 53, 32, 32, [.lit (.int .u8 0), .lit (.int .u8 0), .lit (.int .u8 0), .lit (.int .u8 0), .lit (.int .u8 0), .lit (.int .u8 0), .lit (.int .u8 0), .lit (.int .u8 0), .lit (.int .u8 0), .lit (.int .u8 0), .lit (.int .u8 0), .lit (.int .u8 0), .lit (.int .u8 0), .lit (.int .u8 0), .lit (.int .u8 0), .lit (.int .u8 0), .lit (.int .u8 0), .lit (.int .u8 0), .lit (.int .u8 0), .lit (.int .u8 0), .lit (.int .u8 0), .lit (.int .u8 0), .lit (.int .u8 0), .lit (.int .u8 0), .lit (.int .u8 0), .lit (.int .u8 0), .lit (.int .u8 0), .lit (.int .u8 0), .lit (.int .u8 0), .lit (.int .u8 0), .lit (.int .u8 0), .lit (.int .u8 0)]⟩,
  ⟨.int .u64, 1, 8, [.lit (.int .u64 0)]⟩,
  ⟨.int .u64, 1, 8, [.lit (.int .u64 0)]⟩,
  ⟨.one, 1, 8, [.lit .nilFunc]⟩,
  ⟨.struct [(0, 17), (1, 17), (2, 17), (3, 9)], 4, 40, [.lit (.pointer none), .lit (.pointer none), .lit (.pointer none), .str []]⟩,
  ⟨.struct [(0, 17), (1, 17), (2, 17), (3, 9)], 4, 40, [.lit (.pointer none), .lit (.pointer none), .lit (.pointer none), .str []]⟩,
  ⟨.arr 0 16, 0, 0, []⟩,
  ⟨.struct [(0, 60)], 0, 0, []⟩,
  ⟨.struct [(0, 60)], 0, 0, []⟩,
  ⟨.one, 1, 8, [.lit .nilFunc]⟩,
  ⟨.int .u8, 1, 1, [.lit (.int .u8 0)]⟩,
  ⟨.int .u8, 1, 1, [.lit (.int .u8 0)]⟩,
  ⟨.one, 1, 8, [.lit .nilFunc]⟩,
  ⟨.ptr 5, 1, 8, [.lit (.pointer none)]⟩,
  ⟨.int .i32, 1, 4, [.lit (.int .i32 0)]⟩,
  ⟨.int .i32, 1, 4, [.lit (.int .i32 0)]⟩,
  ⟨.struct [(0, 12), (1, 12), (2, 48), (3, 64), (4, 5), (5, 5), (6, 65), (7, 66), (8, 67), (9, 68), (10, 69)], 11, 48, [.lit (.int .u64 0), .lit (.int .u64 0), .lit (.int .u32 0), .lit (.int .u8 0), .lit (.int .u8 0), .lit (.int .u8 0), .lit (.int .u8 0), .lit .nilFunc, .lit (.pointer none), .lit (.int .i32 0), .lit (.int .i32 0)]⟩,
  ⟨.struct [(0, 12), (1, 12), (2, 48), (3, 64), (4, 5), (5, 5), (6, 65), (7, 66), (8, 67), (9, 68), (10, 69)], 11, 48, [.lit (.int .u64 0), .lit (.int .u64 0), .lit (.int .u32 0), .lit (.int .u8 0), .lit (.int .u8 0), .lit (.int .u8 0), .lit (.int .u8 0), .lit .nilFunc, .lit (.pointer none), .lit (.int .i32 0), .lit (.int .i32 0)]⟩,
  ⟨.one, 1, 8, [.lit (.pointer none)]⟩]
def L : Tab := tabOf tbl
set_option maxRecDepth 100000 in
theorem L_ok : TabOk Tryd.prog L := tabOk_of (by kernel_rfl)
theorem mixed : Tryd.prog.follows .mixedOrders = true := by kernel_rfl
@[go_sem] theorem globAV_0 : globAV 0 = .ip (.agg firstAV) := glob_first rfl
@[go_sem] theorem globAV_1 : globAV 1 = .ip (.agg acceptAV) := glob_accept rfl
@[go_sem] theorem L_0 : L 0 = ltOther := rfl
@[go_sem] theorem L_1 : L 1 = ⟨.one, 1, 8, [.lit .nilFunc]⟩ := rfl
@[go_sem] theorem L_2 : L 2 = ⟨.int .i64, 1, 8, [.lit (.int .i64 0)]⟩ := rfl
@[go_sem] theorem L_3 : L 3 = ⟨.int .i64, 1, 8, [.lit (.int .i64 0)]⟩ := rfl
@[go_sem] theorem L_4 : L 4 = ⟨.bool, 1, 1, [.lit (.bool false)]⟩ := rfl
@[go_sem] theorem L_5 : L 5 = ⟨.int .u8, 1, 1, [.lit (.int .u8 0)]⟩ := rfl
@[go_sem] theorem L_6 : L 6 = ⟨.int .u8, 1, 1, [.lit (.int .u8 0)]⟩ := rfl
@[go_sem] theorem L_7 : L 7 = ⟨.struct [(0, 2), (1, 3), (2, 4), (3, 6)], 4, 24, [.lit (.int .i64 0), .lit (.int .i64 0), .lit (.bool false), .lit (.int .u8 0)]⟩ := rfl
@[go_sem] theorem L_8 : L 8 = ⟨.struct [(0, 2), (1, 3), (2, 4), (3, 6)], 4, 24, [.lit (.int .i64 0), .lit (.int .i64 0), .lit (.bool false), .lit (.int .u8 0)]⟩ := rfl
@[go_sem] theorem L_9 : L 9 = ⟨.str, 1, 16, [.str []]⟩ := rfl
@[go_sem] theorem L_10 : L 10 = ⟨.str, 1, 16, [.str []]⟩ := rfl
@[go_sem] theorem L_11 : L 11 = ⟨.str, 1, 16, [.str []]⟩ := rfl
@[go_sem] theorem L_12 : L 12 = ⟨.int .u64, 1, 8, [.lit (.int .u64 0)]⟩ := rfl
@[go_sem] theorem L_13 : L 13 = ⟨.struct [(0, 9), (1, 12)], 2, 24, [.str [], .lit (.int .u64 0)]⟩ := rfl
@[go_sem] theorem L_14 : L 14 = ⟨.struct [(0, 9), (1, 12)], 2, 24, [.str [], .lit (.int .u64 0)]⟩ := rfl
@[go_sem] theorem L_15 : L 15 = ⟨.ptr 59, 1, 8, [.lit (.pointer none)]⟩ := rfl
@[go_sem] theorem L_16 : L 16 = ⟨.ptr 62, 1, 8, [.lit (.pointer none)]⟩ := rfl
@[go_sem] theorem L_17 : L 17 = ⟨.ptr 71, 1, 8, [.lit (.pointer none)]⟩ := rfl
@[go_sem] theorem L_18 : L 18 = ⟨.struct [(0, 17)], 1, 8, [.lit (.pointer none)]⟩ := rfl
@[go_sem] theorem L_19 : L 19 = ⟨.struct [(0, 17)], 1, 8, [.lit (.pointer none)]⟩ := rfl
@[go_sem] theorem L_20 : L 20 = ⟨.one, 1, 16, [.lit .nilIface]⟩ := rfl
@[go_sem] theorem L_21 : L 21 = ⟨.int .i32, 1, 4, [.lit (.int .i32 0)]⟩ := rfl
@[go_sem] theorem L_22 : L 22 = ⟨.slice 5, 1, 24, [.sl .full 0 []]⟩ := rfl
@[go_sem] theorem L_23 : L 23 = ⟨.one, 1, 8, [.lit .nilFunc]⟩ := rfl
@[go_sem] theorem L_24 : L 24 = ⟨.slice 21, 1, 24, [.sl .full 0 []]⟩ := rfl
@[go_sem] theorem L_25 : L 25 = ⟨.int .i64, 1, 8, [.lit (.int .i64 0)]⟩ := rfl
@[go_sem] theorem L_26 : L 26 = ltOther := rfl
@[go_sem] theorem L_27 : L 27 = ⟨.one, 1, 8, [.lit .nilFunc]⟩ := rfl
@[go_sem] theorem L_28 : L 28 = ⟨.one, 1, 8, [.lit .nilFunc]⟩ := rfl
@[go_sem] theorem L_29 : L 29 = ⟨.one, 1, 8, [.lit .nilFunc]⟩ := rfl
@[go_sem] theorem L_30 : L 30 = ⟨.one, 1, 8, [.lit .nilFunc]⟩ := rfl
@[go_sem] theorem L_31 : L 31 = ⟨.one, 1, 8, [.lit .nilFunc]⟩ := rfl
@[go_sem] theorem L_32 : L 32 = ⟨.one, 1, 8, [.lit .nilFunc]⟩ := rfl
@[go_sem] theorem L_33 : L 33 = ltOther := rfl
@[go_sem] theorem L_34 : L 34 = ⟨.one, 1, 8, [.lit .nilFunc]⟩ := rfl
@[go_sem] theorem L_35 : L 35 = ⟨.one, 1, 8, [.lit .nilFunc]⟩ := rfl
@[go_sem] theorem L_36 : L 36 = ⟨.one, 1, 8, [.lit .nilFunc]⟩ := rfl
@[go_sem] theorem L_37 : L 37 = ltOther := rfl
@[go_sem] theorem L_38 : L 38 = ⟨.one, 1, 8, [.lit .nilFunc]⟩ := rfl
@[go_sem] theorem L_39 : L 39 = ⟨.one, 1, 8, [.lit .nilFunc]⟩ := rfl
@[go_sem] theorem L_40 : L 40 = ltOther := rfl
@[go_sem] theorem L_41 : L 41 = ⟨.one, 1, 8, [.lit .nilFunc]⟩ := rfl
@[go_sem] theorem L_42 : L 42 = ⟨.one, 1, 8, [.lit .nilFunc]⟩ := rfl
@[go_sem] theorem L_43 : L 43 = ⟨.one, 1, 8, [.lit .nilFunc]⟩ := rfl
@[go_sem] theorem L_44 : L 44 = ⟨.one, 1, 8, [.lit .nilFunc]⟩ := rfl
@[go_sem] theorem L_45 : L 45 = ltOther := rfl
@[go_sem] theorem L_46 : L 46 = ⟨.one, 1, 8, [.lit .nilFunc]⟩ := rfl
@[go_sem] theorem L_47 : L 47 = ⟨.one, 1, 8, [.lit .nilFunc]⟩ := rfl
@[go_sem] theorem L_48 : L 48 = ⟨.int .u32, 1, 4, [.lit (.int .u32 0)]⟩ := rfl
@[go_sem] theorem L_49 : L 49 = ⟨.one, 1, 8, [.lit .nilFunc]⟩ := rfl
@[go_sem] theorem L_50 : L 50 = ⟨.one, 1, 8, [.lit .nilFunc]⟩ := rfl
@[go_sem] theorem L_51 : L 51 = ⟨.arr 256 5, 256, 256, [.lit (.int .u8 0), .lit (.int .u8 0), .lit (.int .u8 0), .lit (.int .u8 0), .lit (.int .u8 0), .lit (.int .u8 0), .lit (.int .u8 0), .lit (.int .u8 0), .lit (.int .u8 0), .lit (.int .u8 0), .lit (.int .u8 0), .lit (.int .u8 0), .lit (.int .u8 0), .lit (.int .u8 0), .lit (.int .u8 0), .lit (.int .u8 0), .lit (.int .u8 0), .lit (.int .u8 0), .lit (.int .u8 0), .lit (.int .u8 0), .lit (.int .u8 0), .lit (.int .u8 0), .lit (.int .u8 0), .lit (.int .u8 0), .lit (.int .u8 0), .lit (.int .u8 0), .lit (.int .u8 0), .lit (.int .u8 0), .lit (.int .u8 0), .lit (.int .u8 0), .lit (.int .u8 0), .lit (.int .u8 0), .lit (.int .u8 0), .lit (.int .u8 0), .lit (.int .u8 0), .lit (.int .u8 0), .lit (.int .u8 0), .lit (.int .u8 0), .lit (.int .u8 0), .lit (.int .u8 0), .lit (.int .u8 0), .lit (.int .u8 0), .lit (.int .u8 0), .lit (.int .u8 0), .lit (.int .u8 0), .lit (.int .u8 0), .lit (.int .u8 0), .lit (.int .u8 0), .lit (.int .u8 0), .lit (.int .u8 0), .lit (.int .u8 0), .lit (.int .u8 0), .lit (.int .u8 0), .lit (.int .u8 0), .lit (.int .u8 0), .lit (.int .u8 0), .lit (.int .u8 0), .lit (.int .u8 0), .lit (.int .u8 0), .lit (.int .u8 0), .lit (.int .u8 0), .lit (.int .u8 0), .lit (.int .u8 0), .lit (.int .u8 0), .lit (.int .u8 0), .lit (.int .u8 0), .lit (.int .u8 0), .lit (.int .u8 0), .lit (.int .u8 0), .lit (.int .u8 0), .lit (.int .u8 0), .lit (.int .u8 0), .lit (.int .u8 0), .lit (.int .u8 0), .lit (.int .u8 0), .lit (.int .u8 0), .lit (.int .u8 0), .lit (.int .u8 0), .lit (.int .u8 0), .lit (.int .u8 0), .lit (.int .u8 0), .lit (.int .u8 0), .lit (.int .u8 0), .lit (.int .u8 0), .lit (.int .u8 0), .lit (.int .u8 0), .lit (.int .u8 0), .lit (.int .u8 0), .lit (.int .u8 0), .lit (.int .u8 0), .lit (.int .u8 0), .lit (.int .u8 0), .lit (.int .u8 0), .lit (.int .u8 0), .lit (.int .u8 0), .lit (.int .u8 0), .lit (.int .u8 0), .lit (.int .u8 0), .lit (.int .u8 0), .lit (.int .u8 0), .lit (.int .u8 0), .lit (.int .u8 0), .lit (.int .u8 0), .lit (.int .u8 0), .lit (.int .u8 0), .lit (.int .u8 0), .lit (.int .u8 0), .lit (.int .u8 0), .lit (.int .u8 0), .lit (.int .u8 0), .lit (.int .u8 0), .lit (.int .u8 0), .lit (.int .u8 0), .lit (.int .u8 0), .lit (.int .u8 0), .lit (.int .u8 0), .lit (.int .u8 0), .lit (.int .u8 0), .lit (.int .u8 0), .lit (.int .u8 0), .lit (.int .u8 0), .lit (.int .u8 0), .lit (.int .u8 0), .lit (.int .u8 0), .lit (.int .u8 0), .lit (.int .u8 0), .lit (.int .u8 0), .lit (.int .u8 0), .lit (.int .u8 0), .lit (.int .u8 0), .lit (.int .u8 0), .lit (.int .u8 0), .lit (.int .u8 0), .lit (.int .u8 0), .lit (.int .u8 0), .lit (.int .u8 0), .lit (.int .u8 0), .lit (.int .u8 0), .lit (.int .u8 0), .lit (.int .u8 0), .lit (.int .u8 0), .lit (.int .u8 0), .lit (.int .u8 0), .lit (.int .u8 0), .lit (.int .u8 0), .lit (.int .u8 0), .lit (.int .u8 0), .lit (.int .u8 0), .lit (.int .u8 0), .lit (.int .u8 0), .lit (.int .u8 0), .lit (.int .u8 0), .lit (.int .u8 0), .lit (.int .u8 0), .lit (.int .u8 0), .lit (.int .u8 0), .lit (.int .u8 0), .lit (.int .u8 0), .lit (.int .u8 0), .lit (.int .u8 0), .lit (.int .u8 0), .lit (.int .u8 0), .lit (.int .u8 0), .lit (.int .u8 0), .lit (.int .u8 0), .lit (.int .u8 0), .lit (.int .u8 0), .lit (.int .u8 0), .lit (.int .u8 0), .lit (.int .u8 0), .lit (.int .u8 0), .lit (.int .u8 0), .lit (.int .u8 0), .lit (.int .u8 0), .lit (.int .u8 0), .lit (.int .u8 0), .lit (.int .u8 0), .lit (.int .u8 0), .lit (.int .u8 0), .lit (.int .u8 0), .lit (.int .u8 0), .lit (.int .u8 0), .lit (.int .u8 0), .lit (.int .u8 0), .lit (.int .u8 0), .lit (.int .u8 0), .lit (.int .u8 0), .lit (.int .u8 0), .lit (.int .u8 0), .lit (.int .u8 0), .lit (.int .u8 0), .lit (.int .u8 0), .lit (.int .u8 0), .lit (.int .u8 0), .lit (.int .u8 0), .lit (.int .u8 0), .lit (.int .u8 0), .lit (.int .u8 0), .lit (.int .u8 0), .lit (.int .u8 0), .lit (.int .u8 0), .lit (.int .u8 0), .lit (.int .u8 0), .lit (.int .u8 0), .lit (.int .u8 0), .lit (.int .u8 0), .lit (.int .u8 0), .lit (.int .u8 0), .lit (.int .u8 0), .lit (.int .u8 0), .lit (.int .u8 0), .lit (.int .u8 0), .lit (.int .u8 0), .lit (.int .u8 0), .lit (.int .u8 0), .lit (.int .u8 0), .lit (.int .u8 0), .lit (.int .u8 0), .lit (.int .u8 0), .lit (.int .u8 0), .lit (.int .u8 0), .lit (.int .u8 0), .lit (.int .u8 0), .lit (.int .u8 0), .lit (.int .u8 0), .lit (.int .u8 0), .lit (.int .u8 0), .lit (.int .u8 0), .lit (.int .u8 0), .lit (.int .u8 0), .lit (.int .u8 0), .lit (.int .u8 0), .lit (.int .u8 0), .lit (.int .u8 0), .lit (.int .u8 0), .lit (.int .u8 0), .lit (.int .u8 0), .lit (.int .u8 0), .lit (.int .u8 0), .lit (.int .u8 0), .lit (.int .u8 0), .lit (.int .u8 0), .lit (.int .u8 0), .lit (.int .u8 0), .lit (.int .u8 0), .lit (.int .u8 0), .lit (.int .u8 0), .lit (.int .u8 0), .lit (.int .u8 0), .lit (.int .u8 0), .lit (.int .u8 0), .lit (.int .u8 0), .lit (.int .u8 0), .lit (.int .u8 0), .lit (.int .u8 0), .lit (.int .u8 0)]⟩ := rfl
@[go_sem] theorem L_52 : L 52 = ⟨.struct [(0, 5), (1, 5)], 2, 2, [.lit (.int .u8 0), .lit (.int .u8 0)]⟩ := rfl
@[go_sem] theorem L_53 : L 53 = ⟨.struct [(0, 5), (1, 5)], 2, 2, [.lit (.int .u8 0), .lit (.int .u8 0)]⟩ := rfl
@[go_sem] theorem L_54 : L 54 = ⟨.arr 16 53, 32, 32, [.lit (.int .u8 0), .lit (.int .u8 0), .lit (.int .u8 0), .lit (.int .u8 0), .lit (.int .u8 0), .lit (.int .u8 0), .lit (.int .u8 0), .lit (.int .u8 0), .lit (.int .u8 0), .lit (.int .u8 0), .lit (.int .u8 0), .lit (.int .u8 0), .lit (.int .u8 0), .lit (.int .u8 0), .lit (.int .u8 0), .lit (.int .u8 0), .lit (.int .u8 0), .lit (.int .u8 0), .lit (.int .u8 0), .lit (.int .u8 0), .lit (.int .u8 0), .lit (.int .u8 0), .lit (.int .u8 0), .lit (.int .u8 0), .lit (.int .u8 0), .lit (.int .u8 0), .lit (.int .u8 0), .lit (.int .u8 0), .lit (.int .u8 0), .lit (.int .u8 0), .lit (.int .u8 0), .lit (.int .u8 0)]⟩ := rfl
@[go_sem] theorem L_55 : L 55 = ⟨.int .u64, 1, 8, [.lit (.int .u64 0)]⟩ := rfl
@[go_sem] theorem L_56 : L 56 = ⟨.int .u64, 1, 8, [.lit (.int .u64 0)]⟩ := rfl
@[go_sem] theorem L_57 : L 57 = ⟨.one, 1, 8, [.lit .nilFunc]⟩ := rfl
@[go_sem] theorem L_58 : L 58 = ⟨.struct [(0, 17), (1, 17), (2, 17), (3, 9)], 4, 40, [.lit (.pointer none), .lit (.pointer none), .lit (.pointer none), .str []]⟩ := rfl
@[go_sem] theorem L_59 : L 59 = ⟨.struct [(0, 17), (1, 17), (2, 17), (3, 9)], 4, 40, [.lit (.pointer none), .lit (.pointer none), .lit (.pointer none), .str []]⟩ := rfl
@[go_sem] theorem L_60 : L 60 = ⟨.arr 0 16, 0, 0, []⟩ := rfl
@[go_sem] theorem L_61 : L 61 = ⟨.struct [(0, 60)], 0, 0, []⟩ := rfl
@[go_sem] theorem L_62 : L 62 = ⟨.struct [(0, 60)], 0, 0, []⟩ := rfl
@[go_sem] theorem L_63 : L 63 = ⟨.one, 1, 8, [.lit .nilFunc]⟩ := rfl
@[go_sem] theorem L_64 : L 64 = ⟨.int .u8, 1, 1, [.lit (.int .u8 0)]⟩ := rfl
@[go_sem] theorem L_65 : L 65 = ⟨.int .u8, 1, 1, [.lit (.int .u8 0)]⟩ := rfl
@[go_sem] theorem L_66 : L 66 = ⟨.one, 1, 8, [.lit .nilFunc]⟩ := rfl
@[go_sem] theorem L_67 : L 67 = ⟨.ptr 5, 1, 8, [.lit (.pointer none)]⟩ := rfl
@[go_sem] theorem L_68 : L 68 = ⟨.int .i32, 1, 4, [.lit (.int .i32 0)]⟩ := rfl
@[go_sem] theorem L_69 : L 69 = ⟨.int .i32, 1, 4, [.lit (.int .i32 0)]⟩ := rfl
@[go_sem] theorem L_70 : L 70 = ⟨.struct [(0, 12), (1, 12), (2, 48), (3, 64), (4, 5), (5, 5), (6, 65), (7, 66), (8, 67), (9, 68), (10, 69)], 11, 48, [.lit (.int .u64 0), .lit (.int .u64 0), .lit (.int .u32 0), .lit (.int .u8 0), .lit (.int .u8 0), .lit (.int .u8 0), .lit (.int .u8 0), .lit .nilFunc, .lit (.pointer none), .lit (.int .i32 0), .lit (.int .i32 0)]⟩ := rfl
@[go_sem] theorem L_71 : L 71 = ⟨.struct [(0, 12), (1, 12), (2, 48), (3, 64), (4, 5), (5, 5), (6, 65), (7, 66), (8, 67), (9, 68), (10, 69)], 11, 48, [.lit (.int .u64 0), .lit (.int .u64 0), .lit (.int .u32 0), .lit (.int .u8 0), .lit (.int .u8 0), .lit (.int .u8 0), .lit (.int .u8 0), .lit .nilFunc, .lit (.pointer none), .lit (.int .i32 0), .lit (.int .i32 0)]⟩ := rfl
@[go_sem] theorem L_72 : L 72 = ⟨.one, 1, 8, [.lit (.pointer none)]⟩ := rfl
end Go.Proofs.YthaicajgfioogaaDoor.V
