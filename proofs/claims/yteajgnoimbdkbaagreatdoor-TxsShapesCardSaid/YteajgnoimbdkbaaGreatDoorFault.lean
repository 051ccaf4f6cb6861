/- coin.fault: a new error of a place and a number. -/
import Derived.Test.YteajgnoimbdkbaaGreatDoorErrs
namespace Go.Proofs.YteajgnoimbdkbaaGreatDoor
open Go.RowKit

theorem ret_int {k : IntKind} {a b : Int} (h : a = b) : Ending.returned (.int k a) = .returned (.int k b) := by rw [h]
/-- coin.fault: a new block with the place and the number. -/
theorem fault_any (s : ByteArray) (n : Int) (w : World) :
    Calls Tryz.prog 67 #[.string s, .int .i64 n] w fun e w' => e = .returned (.iface 118 (.pointer (some ⟨w.heap.size, 0, none⟩))) ∧
      w' = w.alloc (.cells #[.string s, .iface 79 (.int .i64 n)] 120) := by
  go_enter Tryz.func67, Tryz.ntmps67
  go_wp2
  go_ret
  exact ⟨rfl, rfl⟩
end Go.Proofs.YteajgnoimbdkbaaGreatDoor
