/- txs.Shape: how many parts each kind asks for. -/
import Derived.Test.YteajgnoimbdkbaaGreatDoorTxRep
import Derived.Test.YteajgnoimbdkbaaGreatDoorFault
import Derived.Deep.QuietTactic
import Derived.BigQuiet
namespace Go.Proofs.YteajgnoimbdkbaaGreatDoor
open Go.RowKit

def shapeL : List (Nat × Nat × Nat) := [(0, 0, 0), (2, 1, 0), (0, 1, 0), (0, 1, 0), (1, 1, 2), (1, 0, 1), (1, 0, 2), (2, 0, 0), (3, 1, 1), (2, 1, 1), (1, 1, 1), (4, 1, 0), (5, 2, 1), (3, 1, 1), (2, 1, 1), (5, 3, 0), (4, 4, 2), (4, 4, 3), (4, 4, 2)]
/-- How many texts, ints and data a kind asks for. -/
def shapeF (n : Int) : Nat × Nat × Nat := if 1 ≤ n ∧ n < 19 then shapeL.getD n.toNat (0, 0, 0) else (0, 0, 0)
def shapeCells : Array Value := #[.int .i64 0, .int .i64 0, .int .i64 0, .int .i64 2, .int .i64 1, .int .i64 0, .int .i64 0, .int .i64 1, .int .i64 0, .int .i64 0, .int .i64 1, .int .i64 0, .int .i64 1, .int .i64 1, .int .i64 2, .int .i64 1, .int .i64 0, .int .i64 1, .int .i64 1, .int .i64 0, .int .i64 2, .int .i64 2, .int .i64 0, .int .i64 0, .int .i64 3, .int .i64 1, .int .i64 1, .int .i64 2, .int .i64 1, .int .i64 1, .int .i64 1, .int .i64 1, .int .i64 1, .int .i64 4, .int .i64 1, .int .i64 0, .int .i64 5, .int .i64 2, .int .i64 1, .int .i64 3, .int .i64 1, .int .i64 1, .int .i64 2, .int .i64 1, .int .i64 1, .int .i64 5, .int .i64 3, .int .i64 0, .int .i64 4, .int .i64 4, .int .i64 2, .int .i64 4, .int .i64 4, .int .i64 3, .int .i64 4, .int .i64 4, .int .i64 2]
theorem shape_cell (k : Nat) (hk : k < 19) : shapeCells[k * 3]? = some (.int .i64 (shapeL.getD k (0, 0, 0)).1) ∧ shapeCells[k * 3 + 1]? = some (.int .i64 (shapeL.getD k (0, 0, 0)).2.1) ∧ shapeCells[k * 3 + 2]? = some (.int .i64 (shapeL.getD k (0, 0, 0)).2.2) := by
  match k, hk with
  | 0, _ | 1, _ | 2, _ | 3, _ | 4, _ | 5, _ | 6, _ | 7, _ | 8, _ | 9, _ | 10, _ | 11, _ | 12, _ | 13, _ | 14, _ | 15, _ | 16, _ | 17, _ | 18, _ => exact ⟨rfl, rfl, rfl⟩
  | k + 19, h => omega

set_option maxHeartbeats 1000000 in
set_option maxRecDepth 100000 in
theorem shapes_any (w : World) : Calls Tryz.prog 28 #[] w fun e w' => e = .returned (.slice (some ⟨w.heap.size, 0, none⟩) 19 19) ∧ w' = w.alloc (.cells shapeCells 76) := by
  go_enter Tryz.func28, Tryz.ntmps28
  go_wp2
  go_ret
  exact ⟨rfl, rfl⟩

set_option maxRecDepth 100000 in
set_option maxHeartbeats 1000000 in
theorem shape_any (n : Int) (w : World) : Calls Tryz.prog 8 #[.int .i64 n] w fun e w' => e = .returned (.tuple #[.int .i64 (shapeF n).1, .int .i64 (shapeF n).2.1, .int .i64 (shapeF n).2.2]) ∧ Below w.heap.size w w' := by
  have cS := shapes_any w
  by_cases h1 : n < 1
  · have hr : shapeF n = (0, 0, 0) := by rw [shapeF, if_neg (by omega)]
    rw [hr]
    clear hr
    go_enter Tryz.func8, Tryz.ntmps8
    go_wp2_with fail
    refine cS.mono ?_
    rintro e w1 ⟨rfl, rfl⟩
    go_wp2_with fail
    go_ret3
    exact ⟨rfl, below_alloc _ _⟩
  · by_cases h2 : 19 ≤ n
    · have hr : shapeF n = (0, 0, 0) := by rw [shapeF, if_neg (by omega)]
      rw [hr]
      clear hr
      go_enter Tryz.func8, Tryz.ntmps8
      go_wp2_with fail
      refine cS.mono ?_
      rintro e w1 ⟨rfl, rfl⟩
      go_wp2_with fail
      go_ret3
      exact ⟨rfl, below_alloc _ _⟩
    · obtain ⟨k, rfl⟩ := Int.eq_ofNat_of_zero_le (show 0 ≤ n by omega)
      have hk1 : 1 ≤ k := by omega
      have hk2 : k < 19 := by omega
      have hr : shapeF k = shapeL.getD k (0, 0, 0) := by rw [shapeF, if_pos (by omega), Int.toNat_natCast]
      rw [hr]
      obtain ⟨s0, s1, s2⟩ := shape_cell k hk2
      obtain ⟨⟨a, b, c⟩, hS⟩ : ∃ s, shapeL.getD k (0, 0, 0) = s := ⟨_, rfl⟩
      rw [hS] at s0 s1 s2 ⊢
      simp only at s0 s1 s2 ⊢
      have c0 : (w.alloc (.cells shapeCells 76)).cell? ⟨w.heap.size, k * 3, none⟩ = some (.int .i64 a) := by rw [World.cell?_alloc_at _ _ _ _ rfl]; exact s0
      have c1 : (w.alloc (.cells shapeCells 76)).cell? ⟨w.heap.size, k * 3 + 1, none⟩ = some (.int .i64 b) := by rw [World.cell?_alloc_at _ _ _ _ rfl]; exact s1
      have c2 : (w.alloc (.cells shapeCells 76)).cell? ⟨w.heap.size, k * 3 + 2, none⟩ = some (.int .i64 c) := by rw [World.cell?_alloc_at _ _ _ _ rfl]; exact s2
      have i0 : (0 : Int) ≤ (k : Int) := by omega
      have i1 : (k : Int) < 19 := by omega
      have hB := below_alloc w (.cells shapeCells 76)
      clear hr s0 s1 s2 hS
      generalize w.alloc (.cells shapeCells 76) = W at *
      go_enter Tryz.func8, Tryz.ntmps8
      go_wp2_with fail
      refine cS.mono ?_
      rintro e w1 ⟨rfl, rfl⟩
      go_wp2_with fail
      go_quiet (fail)
      go_wp2
      go_ret3
      exact ⟨rfl, below_drewN hB _⟩
end Go.Proofs.YteajgnoimbdkbaaGreatDoor
