/- What an error of the program's own make is in memory, and the function that makes one. -/
import Derived.Test.YtbopkepjbifhhaaGreatDoorRows
import Derived.WalkKit
import Derived.WalkSpells
import Derived.WalkLawsBesides
namespace Go.Proofs.YtbopkepjbifhhaaGreatDoor
open Go.RowKit

theorem ret_int {k : IntKind} {a b : Int} (h : a = b) : Ending.returned (.int k a) = .returned (.int k b) := by rw [h]

/-- coin.fault: a new block with the place and the number. -/
theorem fault_any (s : ByteArray) (n : Int) (w : World) :
    Calls Tryz.prog 18 #[.string s, .int .i64 n] w fun e w' => e = .returned (.iface 67 (.pointer (some ⟨w.heap.size, 0, none⟩))) ∧
      w' = w.alloc (.cells #[.string s, .iface 45 (.int .i64 n)] 69) := by
  go_enter Tryz.func18, Tryz.ntmps18
  go_wp2
  go_ret
  exact ⟨rfl, rfl⟩

/-- slices.Min of two numbers. -/
theorem min2 (a b : Int) (w : World) (g o c : Nat) (h0 : w.cell? ⟨g, o, none⟩ = some (.int .i64 a)) (h1 : w.cell? ⟨g, o + 1, none⟩ = some (.int .i64 b)) :
    Calls Tryz.prog 75 #[.slice (some ⟨g, o, none⟩) 2 c] w fun e w' => e = .returned (.int .i64 (min a b)) ∧ w' = w := by
  go_enter Tryz.func75, Tryz.ntmps75
  go_wp2
  refine wp_loop_rounds 2 ?_
  rw [rounds_succ]
  go_wp2
  all_goals
    rw [rounds_succ]
    go_wp2
    go_ret
    exact ⟨ret_int (by omega), rfl⟩

/-- slices.Max of two numbers. -/
theorem max2 (a b : Int) (w : World) (g o c : Nat) (h0 : w.cell? ⟨g, o, none⟩ = some (.int .i64 a)) (h1 : w.cell? ⟨g, o + 1, none⟩ = some (.int .i64 b)) :
    Calls Tryz.prog 76 #[.slice (some ⟨g, o, none⟩) 2 c] w fun e w' => e = .returned (.int .i64 (max a b)) ∧ w' = w := by
  go_enter Tryz.func76, Tryz.ntmps76
  go_wp2
  refine wp_loop_rounds 2 ?_
  rw [rounds_succ]
  go_wp2
  all_goals
    rw [rounds_succ]
    go_wp2
    go_ret
    exact ⟨ret_int (by omega), rfl⟩

theorem amounts_ok (a b : Int) (w : World) (g o c : Nat) (h0 : w.cell? ⟨g, o, none⟩ = some (.int .i64 a)) (h1 : w.cell? ⟨g, o + 1, none⟩ = some (.int .i64 b))
    (ha : 0 ≤ a) (hb : 0 ≤ b) (ha' : a ≤ 1152921504606846976) (hb' : b ≤ 1152921504606846976) :
    Calls Tryz.prog 60 #[.slice (some ⟨g, o, none⟩) 2 c] w fun e w' => e = .returned .nilIface ∧ w' = w := by
  have hm : 0 ≤ min a b := by omega
  have hM : max a b ≤ 1152921504606846976 := by omega
  go_enter Tryz.func60, Tryz.ntmps60
  go_wp2_with (first | (go_at_call 75; refine (min2 a b _ g o c h0 h1).mono ?_; rintro e w' ⟨rfl, rfl⟩) | (go_at_call 76; refine (max2 a b _ g o c h0 h1).mono ?_; rintro e w' ⟨rfl, rfl⟩))
  go_ret
  exact ⟨rfl, rfl⟩


theorem amounts_bad (a b : Int) (w : World) (g o c : Nat) (h0 : w.cell? ⟨g, o, none⟩ = some (.int .i64 a)) (h1 : w.cell? ⟨g, o + 1, none⟩ = some (.int .i64 b))
    (h : ¬ (0 ≤ a ∧ 0 ≤ b ∧ a ≤ 1152921504606846976 ∧ b ≤ 1152921504606846976)) :
    Calls Tryz.prog 60 #[.slice (some ⟨g, o, none⟩) 2 c] w fun e w' => e = .returned (.iface 67 (.pointer (some ⟨w.heap.size, 0, none⟩))) ∧
      w' = w.alloc (.cells #[.string ⟨#[97, 109, 111, 117, 110, 116]⟩, .iface 45 (.int .i64 4)] 69) := by
  by_cases hm : min a b < 0
  · clear h
    go_enter Tryz.func60, Tryz.ntmps60
    go_wp2_with (first | (go_at_call 75; refine (min2 a b _ g o c h0 h1).mono ?_; rintro e w' ⟨rfl, rfl⟩) | (go_at_call 76; refine (max2 a b _ g o c h0 h1).mono ?_; rintro e w' ⟨rfl, rfl⟩) | (go_at_call 18; refine (fault_any _ _ _).mono ?_; rintro e w' ⟨rfl, rfl⟩))
    go_ret
    exact ⟨rfl, rfl⟩
  · have hM : 1152921504606846976 < max a b := by omega
    clear h
    go_enter Tryz.func60, Tryz.ntmps60
    go_wp2_with (first | (go_at_call 75; refine (min2 a b _ g o c h0 h1).mono ?_; rintro e w' ⟨rfl, rfl⟩) | (go_at_call 76; refine (max2 a b _ g o c h0 h1).mono ?_; rintro e w' ⟨rfl, rfl⟩) | (go_at_call 18; refine (fault_any _ _ _).mono ?_; rintro e w' ⟨rfl, rfl⟩))
    go_ret
    exact ⟨rfl, rfl⟩
end Go.Proofs.YtbopkepjbifhhaaGreatDoor
