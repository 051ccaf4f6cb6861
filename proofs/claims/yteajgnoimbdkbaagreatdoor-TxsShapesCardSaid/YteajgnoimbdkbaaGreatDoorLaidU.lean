/- From what a row's list says of the package-level variables to what the walks ask of the world: the table of UTF-8. -/
import Derived.Test.YteajgnoimbdkbaaGreatDoorCutR
import Derived.Lib.LaidU8
import Derived.PinnedBridge
import Derived.LaidHandle
import Derived.ProofKit
import Derived.Deep.DeepHandedRow
namespace Go.Proofs.YteajgnoimbdkbaaGreatDoor
open Go.RowKit

theorem u8extra : U8Extra Tryz.prog Tryz.lays260_ren := {
  n3 := by kernel_rfl
  n4 := by kernel_rfl
  y3 := by kernel_rfl
  y4 := by kernel_rfl
  c5 := by kernel_rfl
  c119 := by kernel_rfl
  c138 := by kernel_rfl }

theorem laid_data {l : List (String × DataW Unit)} {W : World} (h : laidMetH Tryz.prog l W) {n : String} {d : DataW Unit} (hm : (n, d) ∈ l) (hn : d.handleName?.isNone = true) : Lib.VarReads Tryz.prog W n d := by
  unfold laidMetH at h
  generalize hf : (l.filter fun x => x.2.handleName?.isSome) = fl at h
  cases fl with
  | nil => exact Lib.laidMet.reads h hm
  | cons a rs => exact Lib.laidMet.reads h.1 (List.mem_filter.2 ⟨hm, hn⟩)

theorem laid_u8 {l : List (String × DataW Unit)} {W : World} (h : laidMetH Tryz.prog l W) (h1 : ("unicode/utf8.first", (Rows.laid_unicode_utf8_first : DataW Unit)) ∈ l) (h2 : ("unicode/utf8.acceptRanges", (Rows.laid_unicode_utf8_acceptRanges : DataW Unit)) ∈ l) : U8Tabs W := by
  have r1 := laid_data h h1 (by kernel_rfl)
  have r2 := laid_data h h2 (by kernel_rfl)
  exact utf8Tabs_of_reads Tryz.lays260 u8extra (by rw [← Pinned.utf8First_eq]; exact r1) (by
    have e : (Rows.laid_unicode_utf8_acceptRanges : DataW Unit) = Lib.acceptData := by kernel_rfl
    rw [← e]; exact r2)

/-- A world in which a package-level variable holds other cells: for the witnesses. -/
def setVar (w : World) (g : Nat) (vs : Array Value) : World :=
  { w with heap := w.heap.modify g (fun o => match o with
    | .cells _ t frozen => .cells vs t frozen
    | o => o) }
def accVals : Array Value := (((List.range 16).map fun i => [Value.int .u8 (Lib.accLo i), Value.int .u8 (Lib.accHi i)]).flatten).toArray
def firstVals : Array Value := (Lib.firstTab.map (Value.int .u8)).toArray
end Go.Proofs.YteajgnoimbdkbaaGreatDoor
