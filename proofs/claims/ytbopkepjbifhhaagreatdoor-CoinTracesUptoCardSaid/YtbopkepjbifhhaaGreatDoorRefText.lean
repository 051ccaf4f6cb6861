/- isthmusref01.Text: a sum in digits, as the program's. -/
import Derived.Test.YtbopkepjbifhhaaGreatDoorText
import Derived.BigQuiet
namespace Go.Proofs.YtbopkepjbifhhaaGreatDoor
open Go.RowKit

theorem hex_cut (x : Int) (h0 : 0 ≤ x) (h1 : x < 16) : hexS.extract x.toNat (x + 1).toNat = ⟨#[hexD x]⟩ := by
  have h : x = 0 ∨ x = 1 ∨ x = 2 ∨ x = 3 ∨ x = 4 ∨ x = 5 ∨ x = 6 ∨ x = 7 ∨ x = 8 ∨ x = 9 ∨ x = 10 ∨ x = 11 ∨ x = 12 ∨ x = 13 ∨ x = 14 ∨ x = 15 := by omega
  rcases h with rfl | rfl | rfl | rfl | rfl | rfl | rfl | rfl | rfl | rfl | rfl | rfl | rfl | rfl | rfl | rfl <;> decide +kernel

set_option maxRecDepth 100000 in
set_option maxHeartbeats 2000000 in
theorem refText_any (f : Nat → Int) (hf : ∀ i, i < 32 → 0 ≤ f i ∧ f i < 256) (w : World) :
    Calls Tryz.prog 27 #[bytesV 32 f] w fun e w' => e = .returned (.string (textS f)) ∧ Below w.heap.size w w' := by
  have hM := marks_octets w 51 32 f
  have hB := below_alloc w (.cells (octets 32 f).toArray 51)
  go_enter Tryz.func27, Tryz.ntmps27
  go_wp2_with (refine wpList_box_bytes rfl _ 51 rfl 32 f rfl ?_)
  generalize hW0 : w.alloc (.cells (octets 32 f).toArray 51) = W0 at *
  clear hW0
  go_loopg [3, 4] 32 (fun k vs vi wq => ∃ (j : Nat), j + k = 32 ∧ vs = .string ⟨(textL f j).toArray⟩ ∧ vi = .int .i64 j ∧ Marks wq w.heap.size 32 f ∧ Below w.heap.size w wq)
  case atStart => exact ⟨0, rfl, rfl, rfl, hM, hB⟩
  case round =>
    clear hM hB
    obtain ⟨j, hj, rfl, rfl, hM, hB⟩ := hrel
    by_cases hlt : j < 32
    · obtain ⟨f0, f1⟩ := hf j hlt
      have m0 := hM.1 j hlt
      have hx1 := hex_cut (f j / 16) (by omega) (by omega)
      have hx2 := hex_cut (f j % 16) (by omega) (by omega)
      have hnx : (ByteArray.mk (textL f j).toArray) ++ hexS.extract (f j / 16).toNat (f j / 16 + 1).toNat ++ hexS.extract (f j % 16).toNat (f j % 16 + 1).toNat = ⟨(textL f (j + 1)).toArray⟩ := by
        rw [hx1, hx2, textL_succ]
        simp [← ByteArray.append_eq, ByteArray.append]
      have HX := Lib.hid hnx
      have hz : (ByteArray.mk (textL f j).toArray).size = 2 * j := by show (textL f j).toArray.size = _; rw [List.size_toArray, textL_length]
      clear hx1 hx2 hnx
      go_wp2_with fail
      go_quiet (fail)
      go_wp2_with fail
      go_roundg (31 - j)
      case rel => exact ⟨j + 1, by omega, congrArg Value.string HX.out, by simp, ⟨fun i hi => hM.1 i hi, fun o => hM.2 o⟩, below_drewN hB _⟩
      case measure => omega
    · obtain rfl : j = 32 := by omega
      go_wp2_with fail
      go_ret
      exact ⟨rfl, hB⟩
end Go.Proofs.YtbopkepjbifhhaaGreatDoor
