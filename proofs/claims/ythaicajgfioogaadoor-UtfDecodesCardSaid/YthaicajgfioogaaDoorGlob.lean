/- What the listed package variables hold, cell by cell: written by gen_glob.py. -/
import Derived.WalkKit
import Derived.Lib.DecodeN
set_option linter.unusedSimpArgs false
set_option linter.unusedVariables false
namespace Go.Proofs.YthaicajgfioogaaDoor.V
open Go
def tabFirst : List Value := (List.range 256).map fun c => .int .u8 (Lib.firstT c)
def tabAccept : List Value := (List.range 16).flatMap fun i => [.int .u8 (Lib.accLo i), .int .u8 (Lib.accHi i)]
def gtab : Nat → List Value
  | 0 => tabFirst
  | 1 => tabAccept
  | _ => []
theorem glob_0 : gtab 0 = tabFirst := rfl
theorem glob_1 : gtab 1 = tabAccept := rfl
end Go.Proofs.YthaicajgfioogaaDoor.V
