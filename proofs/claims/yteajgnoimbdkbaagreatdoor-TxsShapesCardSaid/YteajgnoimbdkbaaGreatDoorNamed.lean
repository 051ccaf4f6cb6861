/- txs.named: is a text an account's name? -/
import Derived.Test.YteajgnoimbdkbaaGreatDoorBase
import Derived.Test.YteajgnoimbdkbaaGreatDoorShelf
import Derived.Shelf.Strings.SlTrimAscii
namespace Go.Proofs.YteajgnoimbdkbaaGreatDoor
open Go.RowKit Go.Shelf Go.Lib

def MaxLenAt (w : World) : Prop := ∃ m, w.cell? ⟨2, 0, none⟩ = some (.int .i64 m)
theorem MaxLenAt.keep {w w' : World} (h : MaxLenAt w) (hb : Below w.heap.size w w') : MaxLenAt w' := by
  obtain ⟨m, h⟩ := h
  exact ⟨m, (hb.cell (cell_lt h)).trans h⟩
def nameT (s : ByteArray) : ByteArray := ⟨(Lib.trimS s.data.toList setD.data.toList).toArray⟩
def nameC (s : ByteArray) : Bool := Lib.contains setL.data.toList (s.extract 0 1).data.toList
/-- Is a text an account's name? -/
def nameB (s : ByteArray) : Bool := decide (2 ≤ s.size) && decide (s.size ≤ 20) && nameC s && (nameT s).toList.isEmpty
def BoolPost (b : Bool) (w : World) (e : Ending) (w' : World) : Prop := e = .returned (.bool b) ∧ Below w.heap.size w w'

set_option maxRecDepth 100000 in
set_option maxHeartbeats 1000000 in
theorem named_any (s : ByteArray) (w : World) (hs : s.size ≤ 9223372036854775807) (hM : MaxLenAt w) : Calls Tryz.prog 29 #[.string s] w (BoolPost (nameB s) w) := by
  obtain ⟨m, hm⟩ := hM
  have cC : Calls Tryz.prog 62 #[.string setL, .string (s.extract 0 1)] w fun e w' => e = .returned (.bool (nameC s)) ∧ w' = w := Tryz.strings_Contains setL (s.extract 0 1) m w (by decide) hm
  have cT := fun w => Any.strings_Trim_laid Tryz.lays160 (by kernel_rfl) s setD w hs (by decide) (ascii_of_all (by decide))
  change ∀ w, Calls Tryz.prog 63 _ _ (fun e w' => e = .returned (.string (nameT s)) ∧ Below w.heap.size w w') at cT
  by_cases h2 : 2 ≤ s.size
  · by_cases h20 : s.size ≤ 20
    · have q2 : (2 : Int) ≤ (s.size : Int) := by omega
      have q3 : (s.size : Int) ≤ 20 := by omega
      cases hc : nameC s
      · have HR : Hid (nameB s = false) := Lib.hid (by simp [nameB, hc])
        rw [hc] at cC
        clear hc
        go_enter Tryz.func29, Tryz.ntmps29
        go_wp2_with fail
        refine cC.mono ?_
        rintro e w1 ⟨rfl, rfl⟩
        go_wp2_with fail
        go_ret
        exact ⟨ret_bool HR.out.symm, Below.refl _ _⟩
      · have HR : Hid (nameB s = (nameT s).toList.isEmpty) := Lib.hid (by simp [nameB, hc, h2, h20])
        rw [hc] at cC
        generalize nameT s = t at *
        clear hc
        go_enter Tryz.func29, Tryz.ntmps29
        go_wp2_with fail
        refine cC.mono ?_
        rintro e w1 ⟨rfl, rfl⟩
        go_wp2_with fail
        refine (cT _).mono ?_
        rintro e w2 ⟨rfl, hb2⟩
        go_wp2_with fail
        go_ret
        exact ⟨ret_bool HR.out.symm, hb2⟩
    · have q3 : ¬((s.size : Int) ≤ 20) := by omega
      have HR : Hid (nameB s = false) := Lib.hid (by simp [nameB, h20])
      clear h2
      go_enter Tryz.func29, Tryz.ntmps29
      go_wp2_with fail
      all_goals
        go_ret
        exact ⟨ret_bool HR.out.symm, Below.refl _ _⟩
  · have q2 : ¬((2 : Int) ≤ (s.size : Int)) := by omega
    have HR : Hid (nameB s = false) := Lib.hid (by simp [nameB, h2])
    go_enter Tryz.func29, Tryz.ntmps29
    go_wp2_with fail
    go_ret
    exact ⟨ret_bool HR.out.symm, Below.refl _ _⟩
end Go.Proofs.YteajgnoimbdkbaaGreatDoor
