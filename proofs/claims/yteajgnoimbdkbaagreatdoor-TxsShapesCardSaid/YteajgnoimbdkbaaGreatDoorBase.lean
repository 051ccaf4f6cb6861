/- coin.Base: is a text a base denomination? -/
import Derived.Test.YteajgnoimbdkbaaGreatDoorCutR
namespace Go.Proofs.YteajgnoimbdkbaaGreatDoor
open Go.RowKit

def setL : ByteArray := ⟨#[97, 98, 99, 100, 101, 102, 103, 104, 105, 106, 107, 108, 109, 110, 111, 112, 113, 114, 115, 116, 117, 118, 119, 120, 121, 122]⟩
def setD : ByteArray := ⟨#[97, 98, 99, 100, 101, 102, 103, 104, 105, 106, 107, 108, 109, 110, 111, 112, 113, 114, 115, 116, 117, 118, 119, 120, 121, 122, 48, 49, 50, 51, 52, 53, 54, 55, 56, 57]⟩
theorem setL_low : ∀ b ∈ setL.data.toList, b.toNat < 128 := by decide
theorem setD_low : ∀ b ∈ setD.data.toList, b.toNat < 128 := by decide
def baseB (s : ByteArray) : Bool := decide (3 ≤ s.size) && decide (s.size ≤ 16) && allIn setL (s.extract 0 1) && allIn setD s
theorem base_any (s : ByteArray) (w : World) (hs : s.size ≤ 9223372036854775807) (hT : U8Tabs w) :
    Calls Tryz.prog 64 #[.string s] w fun e w' => e = .returned (.bool (baseB s)) ∧ Below w.heap.size w w' := by
  by_cases h3 : 3 ≤ s.size
  · by_cases h16 : s.size ≤ 16
    · have c1 := of_any setL (s.extract 0 1) setL_low w (by simp; omega) hT
      cases h1 : allIn setL (s.extract 0 1)
      · have hr : baseB s = false := by simp [baseB, h1]
        have HR := Lib.hid hr
        rw [h1] at c1
        clear hr h1 hT
        go_enter Tryz.func64, Tryz.ntmps64
        go_wp2_with (go_at_call 112; refine c1.mono ?_; rintro e w1 ⟨rfl, hb1⟩)
        go_ret
        exact ⟨ret_bool HR.out.symm, hb1⟩
      · have c2 : ∀ w1, Below w.heap.size w w1 → Calls Tryz.prog 112 #[.string s, .string setD] w1 _ := fun w1 hb => of_any setD s setD_low w1 hs (Utf8Tabs_below hT hb)
        have hr : baseB s = allIn setD s := by simp [baseB, h1, h3, h16]
        have HR := Lib.hid hr
        rw [h1] at c1
        clear hr h1 hT
        go_enter Tryz.func64, Tryz.ntmps64
        go_wp2_with fail
        refine c1.mono ?_
        rintro e w1 ⟨rfl, hb1⟩
        go_wp2_with fail
        refine (c2 w1 hb1).mono ?_
        rintro e w2 ⟨rfl, hb2⟩
        go_wp2
        go_ret
        exact ⟨ret_bool HR.out.symm, hb1.trans (hb2.mono hb1.size)⟩
    · have hr : baseB s = false := by simp [baseB, h16]
      have HR := Lib.hid hr
      clear hr
      go_enter Tryz.func64, Tryz.ntmps64
      go_wp2
      go_ret
      exact ⟨ret_bool HR.out.symm, Below.refl _ _⟩
  · have hr : baseB s = false := by simp [baseB, h3]
    have HR := Lib.hid hr
    clear hr
    go_enter Tryz.func64, Tryz.ntmps64
    go_wp2
    go_ret
    exact ⟨ret_bool HR.out.symm, Below.refl _ _⟩
def ibc : ByteArray := ⟨#[105, 98, 99, 47]⟩
end Go.Proofs.YteajgnoimbdkbaaGreatDoor
