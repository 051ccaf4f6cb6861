/- pack.Writer: Int. -/
import Derived.Test.YteajgnoimbdkbaaGreatDoorWriter
import Derived.Laws.BitsAllLaws
namespace Go.Proofs.YteajgnoimbdkbaaGreatDoor
open Go.RowKit

theorem zig_bits (n : Int) (h0 : -9223372036854775808 ≤ n) (h1 : n ≤ 9223372036854775807) :
    bits .xor .u64 (IntKind.u64.wrap (IntKind.u64.wrap n * 2)) (IntKind.u64.wrap (n / 9223372036854775808)) = (zigF n : Int) := by
  simp only [IntKind.wrap_u64]
  by_cases h : 0 ≤ n
  · have e1 : n % 18446744073709551616 * 2 % 18446744073709551616 = ((2 * n.toNat : Nat) : Int) := by omega
    have e2 : n / 9223372036854775808 % 18446744073709551616 = ((0 : Nat) : Int) := by omega
    rw [e1, e2, bits_xor_u64_nat _ _ (by omega) (by omega), Nat.xor_zero, zigF, if_pos h]
  · have e1 : n % 18446744073709551616 * 2 % 18446744073709551616 = ((18446744073709551616 - 2 * (-n).toNat : Nat) : Int) := by omega
    have e2 : n / 9223372036854775808 % 18446744073709551616 = ((18446744073709551615 : Nat) : Int) := by omega
    rw [e1, e2, bits_xor_u64_nat _ _ (by omega) (by omega), zigF, if_neg h]
    have ha : 18446744073709551616 - 2 * (-n).toNat < 2 ^ 64 := by omega
    have hx : (18446744073709551616 - 2 * (-n).toNat) ^^^ 18446744073709551615 = 18446744073709551615 - (18446744073709551616 - 2 * (-n).toNat) := by
      have h2 := congrArg BitVec.toNat (BitVec.xor_allOnes (x := BitVec.ofNat 64 (18446744073709551616 - 2 * (-n).toNat)))
      rw [BitVec.toNat_xor, BitVec.toNat_not, BitVec.toNat_allOnes, BitVec.toNat_ofNat, Nat.mod_eq_of_lt ha] at h2
      simpa using h2
    rw [hx]
    congr 1
    omega

set_option maxRecDepth 100000 in
set_option maxHeartbeats 2000000 in
/-- Int lays a number of either sign. -/
theorem int_any (B g : Nat) (l : List UInt8) (n : Int) (w : World) (h : WriterAt B g l w) (h0 : -9223372036854775808 ≤ n) (h1 : n ≤ 9223372036854775807) (hlen : l.length + (uintL (zigF n)).length ≤ 140737488355328) :
    Calls Tryz.prog 72 #[.pointer (some ⟨g, 0, none⟩), .int .i64 n] w (WriterPost B g (l ++ uintL (zigF n)) w) := by
  have cU := uint_any B g l (zigF n) w h (zigF_lt n h0 h1) hlen
  rw [← zig_bits n h0 h1] at cU
  go_enter Tryz.func72, Tryz.ntmps72
  go_wp2_with fail
  refine cU.mono ?_
  rintro e w1 ⟨rfl, h2, hb, hk⟩
  go_wp2_with fail
  go_ret
  exact ⟨rfl, h2, hb, hk⟩
end Go.Proofs.YteajgnoimbdkbaaGreatDoor
