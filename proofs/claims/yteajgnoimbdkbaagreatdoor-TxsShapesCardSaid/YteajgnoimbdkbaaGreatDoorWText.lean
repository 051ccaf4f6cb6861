/- pack.Writer: Text. -/
import Derived.Test.YteajgnoimbdkbaaGreatDoorTxRep
import Derived.Lib.ConvBytes
namespace Go.Proofs.YteajgnoimbdkbaaGreatDoor
open Go.RowKit

/-- A text's bytes in a new block. -/
theorem conv_row (w : World) (s : ByteArray) : Row (Lib.bytesWorld w 5 s) (.slice (some ⟨w.heap.size, 0, none⟩) s.size (grownCap w s.size 0 5)) 1 s.size (cellsL s.data.toList) := by
  have hl : (cellsL s.data.toList).length = s.size := by rw [cellsL_length, Array.length_toList, ByteArray.size_data]
  refine ⟨by rw [hl]; omega, _, _, rfl, ⟨grownCap_ge _ _ _ _, fun h => by cases h⟩, fun _ => ⟨w.heap.size, 0, rfl, by rw [Lib.bytesWorld_size]; omega, fun i u hu => ?_⟩⟩
  have hi : i < s.size := by have := (List.getElem?_eq_some_iff.1 hu).1; rwa [hl] at this
  rw [Nat.zero_add, Lib.bytesWorld_cell w _ _ i hi, ← hu]
  have hi2 : i < s.data.size := by rwa [← ByteArray.size_data] at hi
  simp only [cellsL, List.getElem?_map, Array.getElem?_toList, Array.getElem?_eq_getElem hi2, Option.map_some, List.getD_eq_getElem?_getD, Option.getD_some]
theorem conv_below (w : World) (s : ByteArray) : Below w.heap.size w (Lib.bytesWorld w 5 s) := ⟨rfl, rfl, rfl, by rw [Lib.bytesWorld_size]; omega, fun k hk => Lib.bytesWorld_at_old w _ _ k hk⟩
theorem conv_keep (g : Nat) (w : World) (s : ByteArray) (hg : g < w.heap.size) : WKeep g w (Lib.bytesWorld w 5 s) :=
  ⟨(conv_below w s).size, fun k hk _ _ => (conv_below w s).block k hk, .inl (by unfold rowOf; rw [(conv_below w s).block g hg])⟩
theorem WriterAt.below {B g : Nat} {l : List UInt8} {w w' : World} (h : WriterAt B g l w) (hb : Below w.heap.size w w') : WriterAt B g l w' := by
  obtain ⟨hB, A, c, hbk, hown, hne⟩ := h
  exact ⟨hB, A, c, (hb.block g (Array.getElem?_eq_some_iff.1 hbk).1).trans hbk, hown.kept (row := none) ⟨hb.os, hb.tape, hb.output, hb.size, fun k hk _ => hb.block k hk⟩ (by cases h : (Value.slice A l.length c).ownBlock <;> simp), hne⟩
theorem WriterAt.lt {B g : Nat} {l : List UInt8} {w : World} (h : WriterAt B g l w) : B ≤ g ∧ g < w.heap.size := by
  obtain ⟨hB, A, c, hbk, _⟩ := h
  exact ⟨hB, (Array.getElem?_eq_some_iff.1 hbk).1⟩
theorem WriterAt.rowLt {B g : Nat} {l : List UInt8} {w : World} (h : WriterAt B g l w) : ∀ k, rowOf w g = some k → k < w.heap.size := by
  obtain ⟨hB, A, c, hbk, hown, hne⟩ := h
  intro k hk
  rw [rowOf_at hbk] at hk
  exact (hown.lt k hk).2

set_option maxRecDepth 100000 in
set_option maxHeartbeats 2000000 in
/-- Text lays a text with its length ahead. -/
theorem wtextS_any (B g : Nat) (l : List UInt8) (s : ByteArray) (w : World) (h : WriterAt B g l w) (hm : s.size ≤ 140737488355000) (hlen : l.length + ((uintL s.size).length + s.size) ≤ 140737488355328) :
    Calls Tryz.prog 42 #[.pointer (some ⟨g, 0, none⟩), .string s] w (WriterPost B g (l ++ bytesL s.data.toList) w) := by
  obtain ⟨hB, hgl⟩ := h.lt
  have hl : s.data.toList.length = s.size := by rw [Array.length_toList, ByteArray.size_data]
  have hrow := conv_row w s
  have cB := bytes_any B g l s.data.toList (.slice (some ⟨w.heap.size, 0, none⟩) s.size (grownCap w s.size 0 5)) (Lib.bytesWorld w 5 s) (h.below (conv_below w s)) (fun W _ hk => by
    rw [hl]
    obtain ⟨h1, A, c, h2, h3, h4⟩ := hrow
    refine ⟨h1, A, c, h2, h3, fun h0 => ?_⟩
    obtain ⟨b, o, rfl, hlt, hc⟩ := h4 h0
    obtain ⟨e1, -, -⟩ := Value.slice.inj h2
    obtain ⟨rfl, rfl⟩ : w.heap.size = b ∧ 0 = o := by simpa using e1
    refine ⟨_, _, rfl, Nat.lt_of_lt_of_le hlt hk.1, fun j u hj => ?_⟩
    refine (World.cell?_of_block (a := ⟨w.heap.size, 0 + j, none⟩) (hk.2.1 w.heap.size hlt (by omega) ?_)).trans (hc j u hj)
    intro e
    rw [show rowOf (Lib.bytesWorld w 5 s) g = rowOf w g by unfold rowOf; rw [(conv_below w s).block g hgl]] at e
    exact Nat.lt_irrefl _ (h.rowLt _ e)) (by rw [hl]; exact hm) (by rw [hl]; exact hlen)
  unfold bytesL
  have hkp := conv_keep g w s hgl
  have hbb := conv_below w s
  clear hrow
  go_enter Tryz.func42, Tryz.ntmps42
  go_wp2_with fail
  rw [Lib.run_convert_string_bytes w 9 27 5 s Tryz.underlying9 Tryz.underlying27 Tryz.underlying5]
  simp only [Result.andThen]
  rw [Oper.upon_value]
  go_wp2_with fail
  refine cB.mono ?_
  rintro e w1 ⟨rfl, h1, hb1, hk1⟩
  go_wp2_with fail
  go_ret
  exact ⟨rfl, h1, (hbb.mono (by omega)).trans hb1, hkp.trans hk1⟩
theorem wtext_any (B g : Nat) (l m : List UInt8) (w : World) (h : WriterAt B g l w) (hm : m.length ≤ 140737488355000) (hlen : l.length + (bytesL m).length ≤ 140737488355328) :
    Calls Tryz.prog 42 #[.pointer (some ⟨g, 0, none⟩), .string (strOf m)] w (WriterPost B g (l ++ bytesL m) w) := by
  have := wtextS_any B g l (strOf m) w h (by rw [strOf_size]; exact hm) (by rw [strOf_size]; simpa [bytesL] using hlen)
  rw [strOf_list] at this
  exact this
end Go.Proofs.YteajgnoimbdkbaaGreatDoor
