/- coin.Add, coin.Sub: the sum and the rest of two amounts, or the error. -/
import Derived.Test.YtbopkepjbifhhaaGreatDoorFull
namespace Go.Proofs.YtbopkepjbifhhaaGreatDoor
open Go.RowKit

def okAm (a b : Int) : Prop := 0 ≤ a ∧ 0 ≤ b ∧ a ≤ 1152921504606846976 ∧ b ≤ 1152921504606846976
instance (a b : Int) : Decidable (okAm a b) := inferInstanceAs (Decidable (_ ∧ _ ∧ _ ∧ _))
/-- The sum of two amounts, and the error's number. -/
def addF (a b : Int) : Int × Int := if okAm a b then (if 1152921504606846976 < a + b then (0, 5) else (a + b, 0)) else (0, 4)
/-- What is left of an amount, and the error's number. -/
def subF (a b : Int) : Int × Int := if okAm a b then (if a < b then (0, 41) else (a - b, 0)) else (0, 4)

def PairPost (r : Int × Int) (w : World) (e : Ending) (w' : World) : Prop :=
  ∃ ev, e = .returned (.tuple #[.int .i64 r.1, ev]) ∧ IsErr w' ev r.2 ∧ Below w.heap.size w w'

theorem add_any (a b : Int) (w : World) : Calls Tryz.prog 37 #[.int .i64 a, .int .i64 b] w (PairPost (addF a b) w) := by
  have hb0 := below_alloc w (.cells #[.int .i64 a, .int .i64 b] 3)
  by_cases h : okAm a b
  · have c1 := amounts_ok a b (w.alloc (.cells #[.int .i64 a, .int .i64 b] 3)) w.heap.size 0 2 (by simp) (by simp) h.1 h.2.1 h.2.2.1 h.2.2.2
    obtain ⟨h1, h2, h3, h4⟩ := h
    by_cases hs : 1152921504606846976 < a + b
    · have hr : addF a b = (0, 5) := by simp [addF, okAm, h1, h2, h3, h4, hs]
      have HR := Lib.hid hr
      clear hr
      go_enter Tryz.func37, Tryz.ntmps37
      go_wp2_with fail
      refine c1.mono ?_
      rintro e w1 ⟨rfl, rfl⟩
      go_wp2_with (go_at_call 18; refine (fault_any _ _ _).mono ?_; rintro e w' ⟨rfl, rfl⟩)
      go_ret2
      exact ⟨_, by rw [HR.out]; rfl, by rw [HR.out]; exact IsErr.fault (n := 5) (by decide) rfl (by simp), hb0.trans ((below_alloc _ _).mono (by simp))⟩
    · have hr : addF a b = (a + b, 0) := by simp [addF, okAm, h1, h2, h3, h4, hs]
      have HR := Lib.hid hr
      clear hr
      go_enter Tryz.func37, Tryz.ntmps37
      go_wp2_with fail
      refine c1.mono ?_
      rintro e w1 ⟨rfl, rfl⟩
      go_wp2
      go_ret2
      exact ⟨_, by rw [HR.out]; rfl, by rw [HR.out]; exact .nil_ _, hb0⟩
  · have c1 := amounts_bad a b (w.alloc (.cells #[.int .i64 a, .int .i64 b] 3)) w.heap.size 0 2 (by simp) (by simp) h
    have hr : addF a b = (0, 4) := by simp [addF, h]
    have HR := Lib.hid hr
    clear hr h
    go_enter Tryz.func37, Tryz.ntmps37
    go_wp2_with fail
    refine c1.mono ?_
    rintro e w1 ⟨rfl, rfl⟩
    go_wp2
    go_ret2
    exact ⟨_, by rw [HR.out]; rfl, by rw [HR.out]; exact IsErr.fault (n := 4) (by decide) rfl (by simp), hb0.trans ((below_alloc _ _).mono (by simp))⟩
end Go.Proofs.YtbopkepjbifhhaaGreatDoor
