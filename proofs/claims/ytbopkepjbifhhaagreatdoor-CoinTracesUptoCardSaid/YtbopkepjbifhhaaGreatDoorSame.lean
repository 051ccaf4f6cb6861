/- isthmuslaw14.same at two traces that are alike. -/
import Derived.Test.YtbopkepjbifhhaaGreatDoorGive
import Derived.Deep.QuietTactic
import Derived.BigQuiet
namespace Go.Proofs.YtbopkepjbifhhaaGreatDoor
open Go.RowKit

set_option maxRecDepth 100000 in
set_option maxHeartbeats 1000000 in
theorem same_any (v1 v2 : Value) (p : List ByteArray) (b : ByteArray) (w : World) (h1 : Strs w v1 p) (h2 : Strs w v2 p) (hl : p.length ≤ 9223372036854775807) :
    Calls Tryz.prog 12 #[.agg #[v1, .string b], .agg #[v2, .string b]] w (TruePost w) := by
  have hb2 : ∀ o1 o2, Below w.heap.size w ((w.alloc o1).alloc o2) := fun o1 o2 => ((Below.refl _ _).alloc (Nat.le_refl _) _).alloc (by simp) _
  obtain ⟨A1, c1, rfl, hc1, hcell1⟩ := h1
  obtain ⟨A2, c2, rfl, hc2, hcell2⟩ := h2
  have H1 := Lib.hid hcell1
  have H2 := Lib.hid hcell2
  clear hcell1 hcell2
  go_enter Tryz.func12, Tryz.ntmps12
  go_wp2
  go_loopg [5] p.length (fun k i wr => ∃ j : Nat, j + k = p.length ∧ i = .int .i64 j ∧ ∃ n, wr = ((w.alloc (.cells #[.slice A1 p.length c1, .string b] 29)).alloc (.cells #[.slice A2 p.length c2, .string b] 24)).drewN n)
  case atStart => exact ⟨0, by omega, rfl, 0, rfl⟩
  case round =>
    obtain ⟨j, hj, rfl, n, rfl⟩ := hrel
    by_cases hlt : j < p.length
    · obtain ⟨g1, o1, rfl, hg1, hce1⟩ := H1.out (by omega)
      obtain ⟨g2, o2, rfl, hg2, hce2⟩ := H2.out (by omega)
      have hx : p[j]? = some p[j] := List.getElem?_eq_getElem hlt
      have hz1 : w.cell? ⟨g1, o1 + j, none⟩ = some (.string p[j]) := hce1 j _ hx
      have hz2 : w.cell? ⟨g2, o2 + j, none⟩ = some (.string p[j]) := hce2 j _ hx
      clear hx hce1 hce2
      generalize p[j] = x at *
      have q1 : ((w.alloc (.cells #[.slice (some ⟨g1, o1, none⟩) p.length c1, .string b] 29)).alloc (.cells #[.slice (some ⟨g2, o2, none⟩) p.length c2, .string b] 24)).cell? ⟨g1, o1 + j, none⟩ = some (.string x) := ((hb2 _ _).cell (p := ⟨g1, o1 + j, none⟩) hg1).trans hz1
      have q2 : ((w.alloc (.cells #[.slice (some ⟨g1, o1, none⟩) p.length c1, .string b] 29)).alloc (.cells #[.slice (some ⟨g2, o2, none⟩) p.length c2, .string b] 24)).cell? ⟨g2, o2 + j, none⟩ = some (.string x) := ((hb2 _ _).cell (p := ⟨g2, o2 + j, none⟩) hg2).trans hz2
      have i1 : (0 : Int) ≤ (j : Int) := by omega
      have i2 : (j : Int) < (p.length : Int) := by omega
      clear hz1 hz2 hb2
      go_wp2_with fail
      go_quiet (fail)
      go_wp2
      go_roundg (p.length - (j + 1))
      case measure => omega
      case rel => exact ⟨j + 1, by omega, by go_num, _, rfl⟩
    · go_wp2
      go_ret
      exact ⟨rfl, below_drewN (hb2 _ _) _⟩
end Go.Proofs.YtbopkepjbifhhaaGreatDoor
