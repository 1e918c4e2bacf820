/- How many runes a string has. -/
import Derived.Test.YthaicajgfioogaaDoorVt
import Derived.Test.YthaicajgfioogaaDoorU3
import Derived.Lib.Walk
import Derived.Lib.RuneCount
import Derived.Laws.RangeString
import Derived.Laws.RangeAny
import Derived.LoopTactic
set_option linter.unusedSimpArgs false
set_option linter.unusedVariables false
namespace Go.Proofs.YthaicajgfioogaaDoor
open Go V Go.RowKit
set_option maxHeartbeats 4000000 in
set_option maxRecDepth 1000000 in
theorem runeCount_calls (s : ByteArray) (w : World) (hs : s.size < 9223372036854775807) :
    Calls Tryd.prog 34 #[.string s] w fun e w' => e = .returned (.int .i64 (Lib.runeCount s)) ∧ ∃ pos, w' = w.iter s pos := by
  go_enter Tryd.func34, Tryd.ntmps34
  go_wp2
  go_loopw [2] (fun n w' => ∃ (pos b acc : Nat), w' = w.iter s pos ∧ n = .int .i64 acc ∧ acc + Lib.runeCountFrom s b pos = Lib.runeCount s ∧ s.size ≤ pos + b ∧ acc ≤ pos) (fun _ w' => s.size - w'.iterPos w.heap.size)
  case atStart => exact ⟨0, s.size, 0, rfl, rfl, by simp [Lib.runeCount], by omega, Nat.le_refl _⟩
  case round =>
    obtain ⟨pos, b, acc, rfl, rfl, hc, hb, ha⟩ := hrel
    by_cases hp : pos < s.size
    · have hnx : ∀ ty, (Instr.next (.pointer (some ⟨w.heap.size, 0, none⟩)) true ty).run Tryd.prog (w.iter s pos) = _ := fun ty => run_next_any w s pos ty hp
      have hwd := Lib.decode_width_pos s pos hp
      go_wp2
      go_roundw
      case rel =>
        cases b with
        | zero => omega
        | succ b =>
          refine ⟨pos + (Utf8.decode s pos).2, b, acc + 1, rfl, by go_num, ?_, by omega, by omega⟩
          rw [← hc]
          simp [Lib.runeCountFrom, hp]
          omega
      case measure =>
        simp
        omega
    · have hnx : ∀ ty, (Instr.next (.pointer (some ⟨w.heap.size, 0, none⟩)) true ty).run Tryd.prog (w.iter s pos) = _ := fun ty => run_next_end w s pos ty hp
      go_wp2
      go_ret
      rw [Lib.runeCountFrom_end s b pos hp, Nat.add_zero] at hc
      subst hc
      exact ⟨rfl, _, rfl⟩
theorem count_from (s : ByteArray) : ∀ (n i : Nat), Lib.runeCountFrom s n i = (runesGo n (s.data.toList.drop i)).length
  | 0, i => rfl
  | n + 1, i => by
    unfold Lib.runeCountFrom runesGo
    by_cases h : i < s.size
    · have hne : s.data.toList.drop i ≠ [] := by
        intro e
        have := congrArg List.length e
        rw [List.length_drop, List.length_nil, ← Lib.size_eq] at this
        omega
      rw [if_pos h, if_neg hne, List.length_cons, count_from s n, Lib.decodeL_drop, List.drop_drop]
      omega
    · have he : s.data.toList.drop i = [] := List.drop_eq_nil_of_le (by rw [← Lib.size_eq]; omega)
      rw [if_neg h, if_pos he]
      rfl
theorem RuneCountInString_c (l : List UInt8) (H : List AObj) (hl : l.length ≤ 100000) : ACalls Tryd.prog 34 [.str l] H (fun x H' => x = .int .i64 (runesOf l).length ∧ H' = H) := by
  refine acalls_of_more Tryd.func34 rfl rfl fun G w vs hi ha => ?_
  rw [relAll_str ha]
  have hsz : (ByteArray.mk l.toArray).size = l.length := by simp [ByteArray.size]
  refine (runeCount_calls ⟨l.toArray⟩ w (by omega)).mono ?_
  rintro e w' ⟨rfl, pos, rfl⟩
  refine ⟨_, _, rfl, (More.refl w).alloc _, fun _ _ _ => .lit _, ?_, rfl⟩
  have : Lib.runeCount ⟨l.toArray⟩ = (runesOf l).length := by
    unfold Lib.runeCount runesOf
    rw [count_from, hsz]
    rfl
  rw [this]
end Go.Proofs.YthaicajgfioogaaDoor
