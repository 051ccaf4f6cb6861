/- coin.fault: a new error of a place and a number. -/
import Derived.Test.YteajgnoimbdkbaaDoorErrs
namespace Go.Proofs.YteajgnoimbdkbaaDoor
open Go.RowKit

theorem ret_int {k : IntKind} {a b : Int} (h : a = b) : Ending.returned (.int k a) = .returned (.int k b) := by rw [h]
/-- coin.fault: a new block with the place and the number. -/
theorem fault_any (s : ByteArray) (n : Int) (w : World) :
    Calls Tryd.prog 41 #[.string s, .int .i64 n] w fun e w' => e = .returned (.iface 74 (.pointer (some ⟨w.heap.size, 0, none⟩))) ∧
      w' = w.alloc (.cells #[.string s, .iface 49 (.int .i64 n)] 76) := by
  go_enter Tryd.func41, Tryd.ntmps41
  go_wp2
  go_ret
  exact ⟨rfl, rfl⟩
end Go.Proofs.YteajgnoimbdkbaaDoor
