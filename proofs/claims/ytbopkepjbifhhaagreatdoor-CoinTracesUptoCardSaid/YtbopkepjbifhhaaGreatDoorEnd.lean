/- coin.Base, coin.part, coin.Port: what a denomination's base, a port, a channel and an end of a way are. -/
import Derived.Test.YtbopkepjbifhhaaGreatDoorCutR
namespace Go.Proofs.YtbopkepjbifhhaaGreatDoor
open Go.RowKit

def setL : ByteArray := ⟨#[97, 98, 99, 100, 101, 102, 103, 104, 105, 106, 107, 108, 109, 110, 111, 112, 113, 114, 115, 116, 117, 118, 119, 120, 121, 122]⟩
def setD : ByteArray := ⟨#[97, 98, 99, 100, 101, 102, 103, 104, 105, 106, 107, 108, 109, 110, 111, 112, 113, 114, 115, 116, 117, 118, 119, 120, 121, 122, 48, 49, 50, 51, 52, 53, 54, 55, 56, 57]⟩
def setH : ByteArray := ⟨#[97, 98, 99, 100, 101, 102, 103, 104, 105, 106, 107, 108, 109, 110, 111, 112, 113, 114, 115, 116, 117, 118, 119, 120, 121, 122, 48, 49, 50, 51, 52, 53, 54, 55, 56, 57, 45]⟩
theorem setL_low : ∀ b ∈ setL.data.toList, b.toNat < 128 := by decide
theorem setD_low : ∀ b ∈ setD.data.toList, b.toNat < 128 := by decide
theorem setH_low : ∀ b ∈ setH.data.toList, b.toNat < 128 := by decide

def baseB (s : ByteArray) : Bool := decide (3 ≤ s.size) && decide (s.size ≤ 16) && allIn setL (s.extract 0 1) && allIn setD s
def partB (s : ByteArray) : Bool := decide (1 ≤ s.size) && decide (s.size ≤ 20) && allIn setH s
def portS (p c : ByteArray) : ByteArray := if partB p && partB c then p ++ ⟨#[47]⟩ ++ c else ⟨#[]⟩

theorem base_any (s : ByteArray) (w : World) (hs : s.size ≤ 9223372036854775807) (hT : U8Tabs w) :
    Calls Tryz.prog 13 #[.string s] w fun e w' => e = .returned (.bool (baseB s)) ∧ Below w.heap.size w w' := by
  by_cases h3 : 3 ≤ s.size
  · by_cases h16 : s.size ≤ 16
    · have c1 := of_any setL (s.extract 0 1) setL_low w (by simp; omega) hT
      cases h1 : allIn setL (s.extract 0 1)
      · have hr : baseB s = false := by simp [baseB, h1]
        have HR := Lib.hid hr
        rw [h1] at c1
        clear hr h1 hT
        go_enter Tryz.func13, Tryz.ntmps13
        go_wp2_with (go_at_call 31; refine c1.mono ?_; rintro e w1 ⟨rfl, hb1⟩)
        go_ret
        exact ⟨ret_bool HR.out.symm, hb1⟩
      · have c2 : ∀ w1, Below w.heap.size w w1 → Calls Tryz.prog 31 #[.string s, .string setD] w1 _ := fun w1 hb => of_any setD s setD_low w1 hs (Utf8Tabs_below hT hb)
        have hr : baseB s = allIn setD s := by simp [baseB, h1, h3, h16]
        have HR := Lib.hid hr
        rw [h1] at c1
        clear hr h1 hT
        go_enter Tryz.func13, Tryz.ntmps13
        go_wp2_with fail
        refine c1.mono ?_
        rintro e w1 ⟨rfl, hb1⟩
        go_wp2_with fail
        refine (c2 w1 hb1).mono ?_
        rintro e w2 ⟨rfl, hb2⟩
        go_wp2
        go_ret
        exact ⟨ret_bool HR.out.symm, hb1.trans (hb2.mono hb1.size)⟩
    · have hr : baseB s = false := by simp [baseB, h16]
      have HR := Lib.hid hr
      clear hr
      go_enter Tryz.func13, Tryz.ntmps13
      go_wp2
      go_ret
      exact ⟨ret_bool HR.out.symm, Below.refl _ _⟩
  · have hr : baseB s = false := by simp [baseB, h3]
    have HR := Lib.hid hr
    clear hr
    go_enter Tryz.func13, Tryz.ntmps13
    go_wp2
    go_ret
    exact ⟨ret_bool HR.out.symm, Below.refl _ _⟩

theorem part_any (s : ByteArray) (w : World) (hs : s.size ≤ 9223372036854775807) (hT : U8Tabs w) :
    Calls Tryz.prog 62 #[.string s] w fun e w' => e = .returned (.bool (partB s)) ∧ Below w.heap.size w w' := by
  by_cases h3 : 1 ≤ s.size
  · by_cases h16 : s.size ≤ 20
    · have c2 := of_any setH s setH_low w hs hT
      have hr : partB s = allIn setH s := by simp [partB, h3, h16]
      have HR := Lib.hid hr
      clear hr hT
      go_enter Tryz.func62, Tryz.ntmps62
      go_wp2_with fail
      refine c2.mono ?_
      rintro e w2 ⟨rfl, hb2⟩
      go_wp2
      go_ret
      exact ⟨ret_bool HR.out.symm, hb2⟩
    · have hr : partB s = false := by simp [partB, h16]
      have HR := Lib.hid hr
      clear hr
      go_enter Tryz.func62, Tryz.ntmps62
      go_wp2
      go_ret
      exact ⟨ret_bool HR.out.symm, Below.refl _ _⟩
  · have hr : partB s = false := by simp [partB, h3]
    have HR := Lib.hid hr
    clear hr
    go_enter Tryz.func62, Tryz.ntmps62
    go_wp2
    go_ret
    exact ⟨ret_bool HR.out.symm, Below.refl _ _⟩

theorem partB_size {s : ByteArray} (h : partB s = true) : s.size ≤ 20 := by
  simp [partB] at h
  omega

theorem port_any (p c : ByteArray) (w : World) (hp : p.size ≤ 9223372036854775807) (hc : c.size ≤ 9223372036854775807) (hT : U8Tabs w) :
    Calls Tryz.prog 39 #[.string p, .string c] w fun e w' => e = .returned (.string (portS p c)) ∧ Below w.heap.size w w' := by
  have c1 := part_any p w hp hT
  have c2 : ∀ w1, Below w.heap.size w w1 → Calls Tryz.prog 62 #[.string c] w1 _ := fun w1 hb => part_any c w1 hc (Utf8Tabs_below hT hb)
  cases h1 : partB p
  · have hr : portS p c = ⟨#[]⟩ := by simp [portS, h1]
    have HR := Lib.hid hr
    rw [h1] at c1
    clear hr h1 hT
    go_enter Tryz.func39, Tryz.ntmps39
    go_wp2_with fail
    refine c1.mono ?_
    rintro e w1 ⟨rfl, hb1⟩
    go_wp2
    go_ret
    exact ⟨by rw [HR.out]; rfl, hb1⟩
  · rw [h1] at c1
    cases h2 : partB c
    · have hr : portS p c = ⟨#[]⟩ := by simp [portS, h2]
      have HR := Lib.hid hr
      simp only [h2] at c2
      clear hr h1 h2 hT
      go_enter Tryz.func39, Tryz.ntmps39
      go_wp2_with fail
      refine c1.mono ?_
      rintro e w1 ⟨rfl, hb1⟩
      go_wp2_with fail
      refine (c2 w1 hb1).mono ?_
      rintro e w2 ⟨rfl, hb2⟩
      go_wp2
      go_ret
      exact ⟨by rw [HR.out]; rfl, hb1.trans (hb2.mono hb1.size)⟩
    · have hp20 : p.size ≤ 20 := partB_size h1
      have hc20 : c.size ≤ 20 := partB_size h2
      have hr : portS p c = p ++ ⟨#[47]⟩ ++ c := by simp [portS, h1, h2]
      have HR := Lib.hid hr
      simp only [h2] at c2
      clear hr h1 h2 hT
      go_enter Tryz.func39, Tryz.ntmps39
      go_wp2_with fail
      refine c1.mono ?_
      rintro e w1 ⟨rfl, hb1⟩
      go_wp2_with fail
      refine (c2 w1 hb1).mono ?_
      rintro e w2 ⟨rfl, hb2⟩
      go_wp2
      go_ret
      exact ⟨by rw [HR.out]; rfl, hb1.trans (hb2.mono hb1.size)⟩
end Go.Proofs.YtbopkepjbifhhaaGreatDoor
