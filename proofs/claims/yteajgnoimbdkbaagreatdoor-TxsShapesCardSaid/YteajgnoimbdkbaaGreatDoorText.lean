/- sha.Text: a sum in digits. -/
import Derived.Test.YteajgnoimbdkbaaGreatDoorWb
import Derived.Test.YteajgnoimbdkbaaGreatDoorShelf
namespace Go.Proofs.YteajgnoimbdkbaaGreatDoor
open Go.RowKit

/-- The digit of a number below 16. -/
def hexD (x : Int) : UInt8 := if x < 10 then (48 + x).toNat.toUInt8 else (87 + x).toNat.toUInt8
def hexS : ByteArray := ⟨#[48, 49, 50, 51, 52, 53, 54, 55, 56, 57, 97, 98, 99, 100, 101, 102]⟩
/-- The digits of so many bytes. -/
def textL (f : Nat → Int) (n : Nat) : List UInt8 := (List.range n).flatMap fun j => [hexD (f j / 16), hexD (f j % 16)]
def textS (f : Nat → Int) : ByteArray := ⟨(textL f 32).toArray⟩
theorem textL_succ (f : Nat → Int) (n : Nat) : textL f (n + 1) = textL f n ++ [hexD (f n / 16), hexD (f n % 16)] := by simp [textL, List.range_succ, List.flatMap_append]
theorem textL_length (f : Nat → Int) : ∀ n, (textL f n).length = 2 * n
  | 0 => rfl
  | n + 1 => by rw [textL_succ, List.length_append, textL_length f n]; simp; omega

theorem index_hex (x : Int) (h0 : 0 ≤ x) (h1 : x < 16) (w : World) : (Instr.index 9 (.string ⟨#[48, 49, 50, 51, 52, 53, 54, 55, 56, 57, 97, 98, 99, 100, 101, 102]⟩) (.int .u8 x)).run Tryz.prog w = .ok (.int .u8 ((hexD x).toNat : Int)) w := by
  have h : x = 0 ∨ x = 1 ∨ x = 2 ∨ x = 3 ∨ x = 4 ∨ x = 5 ∨ x = 6 ∨ x = 7 ∨ x = 8 ∨ x = 9 ∨ x = 10 ∨ x = 11 ∨ x = 12 ∨ x = 13 ∨ x = 14 ∨ x = 15 := by omega
  rcases h with rfl | rfl | rfl | rfl | rfl | rfl | rfl | rfl | rfl | rfl | rfl | rfl | rfl | rfl | rfl | rfl <;> (show _ = _; kernel_rfl)

theorem infoByte : (Tryz.prog.info? 5).map (fun i => (i.zero, i.size, i.bytes)) = some (some (.int .u8 0), 1, 1) := by kernel_rfl
/-- One byte of an array of bytes. -/
theorem index_bytes (f : Nat → Int) (n j : Nat) (hj : j < n) (t e : TypeId) (i : TypeInfo) (w : World) (hu : Tryz.prog.underlying t = some (.array n e)) (hi : Tryz.prog.info? e = some i) (hs : i.size = 1) (ha : Tryz.prog.underlying e = some (.int .u8)) :
    (Instr.index t (bytesV n f) (.int .i64 (j : Int))).run Tryz.prog w = .ok (.int .u8 (f j)) w := by
  have hl : (octets n f)[j]? = some (.int .u8 (f j)) := octets_get hj
  simp [Instr.index, bytesV, asIntOf, run_underlying hu, sizeOf, typeInfo, hi, hs, part, isAgg, run_underlying ha, hj]
  rw [hl]
  rfl

set_option maxRecDepth 100000 in
set_option maxHeartbeats 2000000 in
theorem text_any (f : Nat → Int) (hf : ∀ i, i < 32 → 0 ≤ f i ∧ f i < 256) (w : World) :
    Calls Tryz.prog 115 #[bytesV 32 f] w fun e w' => e = .returned (.string (textS f)) ∧ Below w.heap.size w w' := by
  go_enter Tryz.func115, Tryz.ntmps115
  go_wp2_with (first
    | (refine wpList_box_bytes rfl _ 62 rfl 32 f rfl ?_)
    | (refine wpList_load_marks rfl _ 62 5 rfl w.heap.size 32 f Tryz.underlying62 (by kernel_rfl) rfl ((marks_octets w _ 32 f).keep (by simp) (below_alloc _ _)) ?_))
  have hI0 := Lib.fresh_isBuilder 230 5 (w.alloc (.cells (octets 32 f).toArray 62))
  have hB0 := (below_alloc w (.cells (octets 32 f).toArray 62)).alloc (by simp) (.cells #[.pointer none, .slice none 0 0] 230)
  rw [World.size_alloc] at hI0
  have hz0 : w.heap.size + 1 ≤ ((w.alloc (.cells (octets 32 f).toArray 62)).alloc (.cells #[.pointer none, .slice none 0 0] 230)).heap.size := by simp
  generalize ((w.alloc (.cells (octets 32 f).toArray 62)).alloc (.cells #[.pointer none, .slice none 0 0] 230)) = W0 at *
  go_loopg [7] 32 (fun k v wq => ∃ j : Nat, j + k = 32 ∧ v = .int .i64 j ∧ Lib.IsBuilder 230 5 (w.heap.size + 1) (w.heap.size + 1) (Lib.byteCells (textL f j)) wq ∧ Below w.heap.size w wq ∧ w.heap.size + 1 ≤ wq.heap.size)
  case atStart => exact ⟨0, rfl, rfl, hI0, hB0, hz0⟩
  case round =>
    clear hI0 hB0 hz0
    obtain ⟨j, hj, rfl, hI, hB, hz⟩ := hrel
    by_cases hlt : j < 32
    · obtain ⟨f0, f1⟩ := hf j hlt
      obtain ⟨iB, hiB, _, hsB, _⟩ := info_parts infoByte
      have hv := fun W => index_bytes f 32 j hlt 62 5 iB W Tryz.underlying62 hiB hsB Tryz.underlying5
      have hx1 := fun W => index_hex (f j / 16) (by omega) (by omega) W
      have hx2 := fun W => index_hex (f j % 16) (by omega) (by omega) W
      have c1 := writeByte_any (w.heap.size + 1) (w.heap.size + 1) (Lib.byteCells (textL f j)) ((hexD (f j / 16)).toNat : Int) wr hI (by simp [Lib.byteCells, textL_length]; omega) hz
      go_wp2_with fail
      refine c1.mono ?_
      rintro e w1 ⟨rfl, hI1, hb1⟩
      have hz1 : w.heap.size + 1 ≤ w1.heap.size := Nat.le_trans hz hb1.size
      have c2 := writeByte_any (w.heap.size + 1) (w.heap.size + 1) _ ((hexD (f j % 16)).toNat : Int) w1 hI1 (by simp [Lib.byteCells, textL_length]; omega) hz1
      go_wp2_with fail
      refine c2.mono ?_
      rintro e w2 ⟨rfl, hI2, hb2⟩
      go_wp2_with fail
      go_roundg (31 - j)
      case rel =>
        refine ⟨j + 1, by omega, rfl, ?_, (hB.trans (hb1.mono (by omega))).trans (hb2.mono (by omega)), Nat.le_trans hz1 hb2.size⟩
        rw [textL_succ, Lib.byteCells, List.map_append]
        simpa [Lib.byteCells] using hI2
      case measure => omega
    · obtain rfl : j = 32 := by omega
      go_wp2_with fail
      refine (Tryz.Builder_String_any _ _ _ wr hI hz).mono ?_
      rintro e w1 ⟨rfl, hb1⟩
      go_wp2_with fail
      go_ret
      exact ⟨rfl, hB.trans (hb1.mono (by omega))⟩
end Go.Proofs.YteajgnoimbdkbaaGreatDoor
