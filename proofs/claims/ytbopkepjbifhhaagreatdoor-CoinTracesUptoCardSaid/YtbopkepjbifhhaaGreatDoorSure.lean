/- isthmuslaw14.sure: what comes whatever the input is. -/
import Derived.Test.YtbopkepjbifhhaaGreatDoorAdd
namespace Go.Proofs.YtbopkepjbifhhaaGreatDoor
open Go.RowKit

def sureEnd : ByteArray := ⟨#[116, 114, 97, 110, 115, 102, 101, 114, 47, 99, 104, 97, 110, 110, 101, 108, 45, 48]⟩
def sureBase : ByteArray := ⟨#[97, 116, 111, 109]⟩
def sureText : ByteArray := ⟨#[116, 114, 97, 110, 115, 102, 101, 114, 47, 99, 104, 97, 110, 110, 101, 108, 45, 48, 47, 97, 116, 111, 109]⟩

theorem sure_ends : ([sureEnd].any fun s => !endB s) = false := by decide +kernel
theorem sure_base : baseB sureBase = true := by decide +kernel
theorem sure_join : joinS [sureEnd] sureBase = sureText := by decide +kernel
theorem sure_full : fullS [sureEnd] sureBase = (sureText, 0) := by
  unfold fullS
  rw [if_neg (by decide), sure_ends, sure_base, sure_join]
  rfl

theorem sure_any (w : World) (hT : U8Tabs w) : Calls Tryz.prog 17 #[] w fun e w' => e = .returned (.bool true) ∧ Below w.heap.size w w' := by
  have hb0 := below_alloc w (.cells #[.string sureEnd] 9)
  have hs : Strs (w.alloc (.cells #[.string sureEnd] 9)) (.slice (some ⟨w.heap.size, 0, none⟩) 1 1) [sureEnd] :=
    ⟨_, 1, rfl, ⟨Nat.le_refl _, fun h => by cases h⟩, fun _ => ⟨_, _, rfl, by simp, fun j s hj => by
      rcases j with _ | j
      · obtain rfl := Option.some.inj hj
        simp
      · simp at hj⟩⟩
  have c1 := full_any _ [sureEnd] sureBase _ hs (by decide) (by decide) (by decide) (Utf8Tabs_below hT hb0)
  unfold FullPost at c1
  rw [sure_full] at c1
  have c2 : ∀ w1, Calls Tryz.prog 37 #[.int .i64 1, .int .i64 2] w1 (PairPost (addF 1 2) w1) := fun w1 => add_any 1 2 w1
  rw [show addF 1 2 = (3, 0) from by decide] at c2
  unfold PairPost at c2
  have HB := Lib.hid hb0
  clear hs hb0 hT
  go_enter Tryz.func17, Tryz.ntmps17
  go_wp2_with fail
  refine c1.mono ?_
  rintro e w1 ⟨ev, rfl, hE, hb1⟩
  obtain rfl := hE.zero
  clear hE c1
  go_wp2_with fail
  refine (c2 w1).mono ?_
  rintro e w2 ⟨ev, rfl, hE, hb2⟩
  obtain rfl := hE.zero
  clear hE c2
  have hst : sureText.toList = [116, 114, 97, 110, 115, 102, 101, 114, 47, 99, 104, 97, 110, 110, 101, 108, 45, 48, 47, 97, 116, 111, 109] := by rw [ByteArray.toList_eq]; rfl
  go_wp2
  go_ret
  exact ⟨rfl, (HB.out.trans (hb1.mono HB.out.size)).trans (hb2.mono (Nat.le_trans HB.out.size hb1.size))⟩
end Go.Proofs.YtbopkepjbifhhaaGreatDoor
