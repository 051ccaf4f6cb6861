/- From what a row's list says of the package-level variables to what the walks ask of the world: the table of UTF-8 and errors.errorType. -/
import Derived.Test.YtbopkepjbifhhaaGreatDoorCutR
import Derived.Lib.LaidU8
import Derived.PinnedBridge
import Derived.LaidHandle
import Derived.ProofKit
import Derived.Deep.DeepHandedRow
namespace Go.Proofs.YtbopkepjbifhhaaGreatDoor
open Go.RowKit

theorem u8extra : U8Extra Tryz.prog Tryz.lays260_ren := {
  n3 := by kernel_rfl
  n4 := by kernel_rfl
  y3 := by kernel_rfl
  y4 := by kernel_rfl
  c5 := by kernel_rfl
  c119 := by kernel_rfl
  c138 := by kernel_rfl }

theorem laid_data {l : List (String × DataW Unit)} {W : World} (h : laidMetH Tryz.prog l W) {n : String} {d : DataW Unit} (hm : (n, d) ∈ l) (hn : d.handleName?.isNone = true) : Lib.VarReads Tryz.prog W n d := by
  unfold laidMetH at h
  generalize hf : (l.filter fun x => x.2.handleName?.isSome) = fl at h
  cases fl with
  | nil => exact Lib.laidMet.reads h hm
  | cons a rs => exact Lib.laidMet.reads h.1 (List.mem_filter.2 ⟨hm, hn⟩)

theorem laid_u8 {l : List (String × DataW Unit)} {W : World} (h : laidMetH Tryz.prog l W) (h1 : ("unicode/utf8.first", (Rows.laid_unicode_utf8_first : DataW Unit)) ∈ l) (h2 : ("unicode/utf8.acceptRanges", (Rows.laid_unicode_utf8_acceptRanges : DataW Unit)) ∈ l) : U8Tabs W := by
  have r1 := laid_data h h1 (by kernel_rfl)
  have r2 := laid_data h h2 (by kernel_rfl)
  exact utf8Tabs_of_reads Tryz.lays260 u8extra (by rw [← Pinned.utf8First_eq]; exact r1) (by
    have e : (Rows.laid_unicode_utf8_acceptRanges : DataW Unit) = Lib.acceptData := by kernel_rfl
    rw [← e]; exact r2)

theorem et : Tryz.prog.globalNamed "errors.errorType" = some 0 := by kernel_rfl
theorem rt : (Tryz.prog.cutTypes.find? (·.1 == "internal/reflectlite.rtype")).map (·.2) = some 115 := by kernel_rfl
theorem oneRow : ((List.range 168).filter fun t => Tryz.prog.rowNamed t [101, 114, 114, 111, 114]) = [26] := by kernel_rfl
theorem size_types : Tryz.prog.types.size = 168 := by kernel_rfl

theorem laid_err {l : List (String × DataW Unit)} {W : World} (h : laidMetH Tryz.prog l W) (h1 : ("errors.errorType", (Rows.laid_errors_errorType : DataW Unit)) ∈ l) : ErrType W := by
  unfold laidMetH at h
  have hm : ("errors.errorType", (Rows.laid_errors_errorType : DataW Unit)) ∈ l.filter fun x => x.2.handleName?.isSome := List.mem_filter.2 ⟨h1, by kernel_rfl⟩
  generalize hf : (l.filter fun x => x.2.handleName?.isSome) = fl at h hm
  cases fl with
  | nil => cases hm
  | cons a rs =>
    obtain ⟨name, u, ty, e1, e2, e3, e4, e5⟩ := h.2 _ hm
    have en : name = [101, 114, 114, 111, 114] := (Option.some.inj e1).symm
    subst en
    obtain rfl := Option.some.inj (rt.symm.trans e2)
    have hm : ty ∈ (List.range 168).filter fun t => Tryz.prog.rowNamed t [101, 114, 114, 111, 114] := List.mem_filter.2 ⟨List.mem_range.2 (by rw [← size_types]; exact e3), e4⟩
    rw [oneRow] at hm
    obtain rfl := List.mem_singleton.1 hm
    have hh : typeHandle Tryz.prog 26 = .pointer (some ⟨5, 26, none⟩) := by kernel_rfl
    rw [hh] at e5
    simpa [ErrType] using World.var?_cell et e5 0

/-- A world in which a package-level variable holds other cells: for the witnesses. -/
def setVar (w : World) (g : Nat) (vs : Array Value) : World :=
  { w with heap := w.heap.modify g (fun o => match o with
    | .cells _ t frozen => .cells vs t frozen
    | o => o) }
def accVals : Array Value := (((List.range 16).map fun i => [Value.int .u8 (Lib.accLo i), Value.int .u8 (Lib.accHi i)]).flatten).toArray
def firstVals : Array Value := (Lib.firstTab.map (Value.int .u8)).toArray
def errVals : Array Value := #[.iface 115 (.agg #[.pointer (some ⟨5, 26, none⟩)])]
end Go.Proofs.YtbopkepjbifhhaaGreatDoor
