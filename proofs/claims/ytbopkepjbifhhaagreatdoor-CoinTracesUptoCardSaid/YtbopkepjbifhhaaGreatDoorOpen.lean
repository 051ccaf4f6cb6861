/- A trace among the arguments, opened: a slice of strings and a string. -/
import Derived.Test.YtbopkepjbifhhaaGreatDoorRep
import Derived.Lib.SmallJoins
import Derived.SliceStrings
import Derived.SizedLaws
namespace Go.Proofs.YtbopkepjbifhhaaGreatDoor
open Go.ChangeShapes Go.WideShapes Go.RowKit Go.Joins

section
variable {H : Type} {enc : TypeId × Value → H} {W : World} {base : Nat}

/-- A slice of strings that is read as data lies as a list of strings; what it weighs bounds its length. -/
theorem open_strs {v : Value} {y : DataW H × List MemPlace} {fuel : Nat} (h : DataW.trod enc Tryz.prog W 0 (fun _ => true) true fuel 22 [v] = some y)
    (hw : ∀ n ∈ y.1.weights Tryz.prog 22, n ≤ reachBytes) : ∃ p, Strs W v p ∧ p.length * 16 ≤ 140737488351232 ∧ ∀ s ∈ p, s.size ≤ 9223372036854775807 := by
  rcases open_strings Tryz.underlying22 Tryz.underlying9 (by kernel_rfl) h with ⟨hcs, rfl⟩ | ⟨a, len, cap, ss, hcs, _, hl, hm, hz, rfl, hcell, hsz⟩
  · obtain rfl : v = .slice none 0 0 := by simpa using hcs
    exact ⟨[], ⟨none, 0, rfl, ⟨Nat.le_refl _, fun _ => rfl⟩, fun h => absurd h (by simp)⟩, by simp, fun s hs => by cases hs⟩
  · obtain rfl : v = .slice (some a) len cap := by simpa using hcs
    simp only [if_true] at hz
    have hr := hw ((len + (cap - len)) * 16) (by
      have hb : Tryz.prog.bytesOf 9 = 16 := by kernel_rfl
      simp [DataW.weights, Tryz.underlying22, strs, hb, hz]
      left; omega)
    unfold reachBytes at hr
    have hlen : (ss.take len).length = len := by simp; omega
    refine ⟨ss.take len, ?_, by rw [hlen]; omega, fun s hs => by have := hsz s (List.mem_of_mem_take hs); unfold maxLen at this; omega⟩
    refine ⟨some a, cap, by rw [hlen], ⟨by rw [hlen]; exact hl, fun h => by cases h⟩, fun h0 => ?_⟩
    rw [hlen] at h0
    obtain ⟨b, off, spot⟩ := a
    have hspot : spot = none := by simpa [Addr.add] using World.cell?_spot (hcell 0 (by omega))
    subst hspot
    refine ⟨b, off, rfl, by have := cell_lt (hcell 0 (by omega)); simpa [Addr.add] using this, fun j X hX => ?_⟩
    have hj : j < len := by
      have := (List.getElem?_eq_some_iff.1 hX).1
      omega
    have hX' : ss.getD j ByteArray.empty = X := by
      rw [List.getElem?_take_of_lt hj] at hX
      simp [List.getD, hX]
    have := hcell j (by omega)
    rw [hX', show (⟨b, off, none⟩ : Addr).add j = ⟨b, off + j, none⟩ by unfold Addr.add; split <;> simp_all] at this
    exact this

set_option maxRecDepth 100000 in
theorem open_trace {v : Value} {d : DataW H} {ps : List MemPlace} (hv : Value.okWide Tryz.prog W .any base 24 v) (h : DataW.Trod enc Tryz.prog W 0 (fun _ => true) true 24 v d ps)
    (hw : ∀ n ∈ d.weights Tryz.prog 24, n ≤ reachBytes) :
    ∃ sv b p, v = .agg #[sv, .string b] ∧ Strs W sv p ∧ p.length * 16 ≤ 140737488351232 ∧ (∀ s ∈ p, s.size ≤ 9223372036854775807) ∧ b.size ≤ 9223372036854775807 := by
  obtain ⟨c0, c1, y0, y1, m, rfl, rfl, rfl, hy0, hy1⟩ := open_agg2 Tryz.underlying24 (by kernel_rfl) (by kernel_rfl) hv h
  obtain ⟨b, e1, rfl, hb⟩ := DataW.trod_string Tryz.underlying9 hy1
  obtain rfl : c1 = .string b := by simpa using e1
  obtain ⟨p, h1, h2, h3⟩ := open_strs hy0 (fun n hn => hw n (by
    simp only [DataW.weights, Tryz.underlying24, DataW.weightsEach, List.map_cons]
    exact List.mem_append_left _ hn))
  exact ⟨c0, b, p, rfl, h1, h2, h3, by unfold maxLen at hb; omega⟩
end
end Go.Proofs.YtbopkepjbifhhaaGreatDoor
