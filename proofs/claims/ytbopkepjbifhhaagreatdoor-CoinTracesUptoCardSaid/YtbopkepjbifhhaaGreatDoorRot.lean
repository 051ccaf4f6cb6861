/- SHA-256 in plain numbers; bits.RotateLeft32. -/
import Derived.Test.YtbopkepjbifhhaaGreatDoorRep
import Derived.Laws.Shifts
namespace Go.Proofs.YtbopkepjbifhhaaGreatDoor
open Go.RowKit

/-- A word turned left. -/
def rotF (x : Int) (n : Nat) : Int := bits .or .u32 (x * 2 ^ n % 4294967296) (x / 2 ^ (32 - n))

set_option maxRecDepth 10000 in
theorem rot_any (x k : Int) (n : Nat) (w : World) (hn : n < 32) (hk : bits .and .u64 (IntKind.u64.wrap k) 31 = (n : Int)) :
    Calls Tryz.prog 65 #[.int .u32 x, .int .i64 k] w fun e w' => e = .returned (.int .u32 (rotF x n)) ∧ w' = w := by
  have h1 : (0 : Int) ≤ n := by omega
  have h2 : IntKind.u64.wrap (32 - (n : Int)) = ((32 - n : Nat) : Int) := by
    have := IntKind.wrap_u64 (32 - (n : Int))
    omega
  have h3 : (0 : Int) ≤ ((32 - n : Nat) : Int) := by omega
  have h4 : min n 32 = n := by omega
  have h5 : min (32 - n) 32 = 32 - n := by omega
  go_enter Tryz.func65, Tryz.ntmps65
  go_wp2
  go_ret
  exact ⟨rfl, rfl⟩
theorem rot_bits : ∀ m : Fin 31, bits .and .u64 (IntKind.u64.wrap (-((m.val : Int) + 1))) 31 = ((31 - m.val : Nat) : Int) := by decide +kernel
/-- .. turned to the right by a count that is written out. -/
theorem rot_neg (x k : Int) (w : World) (h0 : -32 < k) (h1 : k < 0) :
    Calls Tryz.prog 65 #[.int .u32 x, .int .i64 k] w fun e w' => e = .returned (.int .u32 (rotF x (32 + k).toNat)) ∧ w' = w := by
  refine rot_any x k _ w (by omega) ?_
  have h := rot_bits ⟨(-k - 1).toNat, by omega⟩
  have e1 : (-(((-k - 1).toNat : Int) + 1)) = k := by omega
  have e2 : 31 - (-k - 1).toNat = (32 + k).toNat := by omega
  rw [e1, e2] at h
  exact h
end Go.Proofs.YtbopkepjbifhhaaGreatDoor
