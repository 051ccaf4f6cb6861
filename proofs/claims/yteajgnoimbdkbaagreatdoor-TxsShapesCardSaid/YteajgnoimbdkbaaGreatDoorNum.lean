/- The number that a law takes off an error: one contract for every error of the program. -/
import Derived.Test.YteajgnoimbdkbaaGreatDoorAs

namespace Go.Proofs.YteajgnoimbdkbaaGreatDoor
open Go.RowKit

def NumPost (n : Int) (w : World) (e : Ending) (w' : World) : Prop := e = .returned (.int .i64 n) ∧ Below w.heap.size w w'

set_option maxHeartbeats 1000000 in
theorem num_any (v : Value) (n : Int) (w : World) (h : IsErr w v n) (hg : ErrType w) : Calls Tryz.prog 10 #[v] w (NumPost n w) := by
  rcases h with ⟨rfl, rfl⟩ | ⟨_, d, h⟩
  · go_enter Tryz.func10, Tryz.ntmps10
    go_wp2
    go_ret
    exact ⟨rfl, below_alloc _ _⟩
  · have hb := below_alloc w (.cells #[.int .i64 0] 79)
    have hc := as_any d v n ⟨w.heap.size, 0, none⟩ (.int .i64 0) (w.alloc (.cells #[.int .i64 0] 79)) w.heap.size (h.keep hb) (by simp) ((hb.cell (cell_lt hg)).trans hg) (by simp) (by simp)
    obtain ⟨tt, x, rfl⟩ := h.iface
    clear h hg hb
    go_enter Tryz.func10, Tryz.ntmps10
    go_wp2_with (go_at_call 33; refine hc.mono ?_; rintro e w' ⟨rfl, o1, o2, o3, o4, rfl⟩)
    go_ret
    refine ⟨rfl, ?_⟩
    repeat (first | exact Below.refl _ _ | refine Below.setCell ?_ (by simp <;> omega) _ | refine Below.alloc ?_ (by simp <;> omega) _)
end Go.Proofs.YteajgnoimbdkbaaGreatDoor
