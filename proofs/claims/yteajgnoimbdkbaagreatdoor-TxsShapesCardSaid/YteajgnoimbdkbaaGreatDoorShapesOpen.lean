/- An array of three numbers among the arguments, opened. -/
import Derived.Test.YteajgnoimbdkbaaGreatDoorErrs
import Derived.Laws.IdiomArrays
import Derived.WideShapes
namespace Go.Proofs.YteajgnoimbdkbaaGreatDoor
open Go.ChangeShapes Go.WideShapes Go.RowKit

set_option maxRecDepth 100000 in
theorem open_int3 {H : Type} {enc : TypeId × Value → H} {W : World} {base : Nat} {v : Value} {d : DataW H} {ps : List MemPlace} (hv : Value.okWide Tryz.prog W .any base 22 v) (h : DataW.Trod enc Tryz.prog W 0 (fun _ => true) true 22 v d ps) :
    ∃ n0 n1 n2 : Int, v = .agg #[.int .i64 n0, .int .i64 n1, .int .i64 n2] := by
  have hv' : ∃ cs, v = .agg cs ∧ cs.size = 3 := by
    simp only [Value.okWide, Tryz.underlying22] at hv
    obtain ⟨cs, h1, h2, _⟩ := hv
    exact ⟨cs, h1, h2⟩
  clear hv
  obtain ⟨cs, rfl, hc⟩ := hv'
  obtain ⟨cs⟩ := cs
  obtain ⟨fuel, hf⟩ := h
  match cs, hc with
  | [c0, c1, c2], _ =>
    obtain ⟨y0, y1, y2, m, _, h0, h1, h2⟩ := trod_array3 Tryz.underlying22 (by kernel_rfl) hf
    obtain ⟨a, e0, _⟩ := DataW.trod_int Tryz.underlying3 h0
    obtain ⟨b, e1, _⟩ := DataW.trod_int Tryz.underlying3 h1
    obtain ⟨c, e2, _⟩ := DataW.trod_int Tryz.underlying3 h2
    simp only [List.cons.injEq, and_true] at e0 e1 e2
    subst e0 e1 e2
    exact ⟨a, b, c, rfl⟩
end Go.Proofs.YteajgnoimbdkbaaGreatDoor
