/- From what a row's list says of errors.errorType to what the walks ask of the world. -/
import Derived.Test.YteajgnoimbdkbaaGreatDoorLaidU
import Derived.Test.YteajgnoimbdkbaaGreatDoorNum
import Derived.Deep.DeepHandedRow
namespace Go.Proofs.YteajgnoimbdkbaaGreatDoor
open Go.RowKit

theorem et : Tryz.prog.globalNamed "errors.errorType" = some 0 := by kernel_rfl
theorem rt : (Tryz.prog.cutTypes.find? (·.1 == "internal/reflectlite.rtype")).map (·.2) = some 193 := by kernel_rfl
theorem oneRow : ((List.range 274).filter fun t => Tryz.prog.rowNamed t [101, 114, 114, 111, 114]) = [39] := by kernel_rfl
theorem size_types : Tryz.prog.types.size = 274 := by kernel_rfl

theorem laid_err {l : List (String × DataW Unit)} {W : World} (h : laidMetH Tryz.prog l W) (h1 : ("errors.errorType", (Rows.laid_errors_errorType : DataW Unit)) ∈ l) : ErrType W := by
  unfold laidMetH at h
  have hm : ("errors.errorType", (Rows.laid_errors_errorType : DataW Unit)) ∈ l.filter fun x => x.2.handleName?.isSome := List.mem_filter.2 ⟨h1, by kernel_rfl⟩
  generalize hf : (l.filter fun x => x.2.handleName?.isSome) = fl at h hm
  cases fl with
  | nil => cases hm
  | cons a rs =>
    obtain ⟨name, u, ty, e1, e2, e3, e4, e5⟩ := h.2 _ hm
    have en : name = [101, 114, 114, 111, 114] := (Option.some.inj e1).symm
    subst en
    obtain rfl := Option.some.inj (rt.symm.trans e2)
    have hm : ty ∈ (List.range 274).filter fun t => Tryz.prog.rowNamed t [101, 114, 114, 111, 114] := List.mem_filter.2 ⟨List.mem_range.2 (by rw [← size_types]; exact e3), e4⟩
    rw [oneRow] at hm
    obtain rfl := List.mem_singleton.1 hm
    have hh : typeHandle Tryz.prog 39 = .pointer (some ⟨5, 39, none⟩) := by kernel_rfl
    rw [hh] at e5
    simpa [ErrType] using World.var?_cell et e5 0

def errVals : Array Value := #[.iface 193 (.agg #[.pointer (some ⟨5, 39, none⟩)])]
end Go.Proofs.YteajgnoimbdkbaaGreatDoor
