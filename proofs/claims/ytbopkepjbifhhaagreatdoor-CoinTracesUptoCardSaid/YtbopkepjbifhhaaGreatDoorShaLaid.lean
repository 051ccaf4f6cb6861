/- From what a row's list says of the rounds' words to what the walks ask of the world. -/
import Derived.Test.YtbopkepjbifhhaaGreatDoorLaid
import Derived.Test.YtbopkepjbifhhaaGreatDoorDenom
namespace Go.Proofs.YtbopkepjbifhhaaGreatDoor
open Go.RowKit

theorem laid_sha {l : List (String × DataW Unit)} {W : World} (h : laidMetH Tryz.prog l W) (h1 : ("isthmus/sha.rounds", (Rows.laid_isthmus_sha_rounds : DataW Unit)) ∈ l) : ShaTab W := by
  obtain ⟨g, t, cs, fuel, p, hg, hty, hvar, hd⟩ := laid_data h h1 (by kernel_rfl)
  obtain rfl := Option.some.inj ((show Tryz.prog.globalNamed "isthmus/sha.rounds" = some 1 by kernel_rfl).symm.trans hg)
  obtain rfl := Option.some.inj ((show (Tryz.prog.globals[1]?).map (·.type) = some 89 by kernel_rfl).symm.trans hty)
  have e : (Rows.laid_isthmus_sha_rounds : DataW Unit) = Lib.tabData .u32 kTab := by kernel_rfl
  rw [e] at hd
  have hcs := Lib.cells_of_tab Tryz.underlying89 Tryz.underlying82 (by kernel_rfl) (by kernel_rfl) hd
  have hc : ∀ i, i < 64 → W.cell? ⟨1, i, none⟩ = some (.int .u32 (kF i)) := fun i hi => by
    have := World.var?_cell hg hvar i
    rw [this, ← Array.getElem?_toList, hcs, List.getElem?_map, kF, List.getD_eq_getElem?_getD]
    have hl : i < kTab.length := hi
    rw [List.getElem?_eq_getElem hl]
    rfl
  exact ⟨hc, cell_lt (hc 0 (by decide))⟩
def roundsVals : Array Value := (kTab.map (Value.int .u32)).toArray
end Go.Proofs.YtbopkepjbifhhaaGreatDoor
