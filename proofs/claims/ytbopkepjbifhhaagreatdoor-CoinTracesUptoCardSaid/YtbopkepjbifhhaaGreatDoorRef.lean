/- The document's part, end, Base, Port (isthmusref14): they are what the program's are. -/
import Derived.Test.YtbopkepjbifhhaaGreatDoorFull
namespace Go.Proofs.YtbopkepjbifhhaaGreatDoor
open Go.RowKit

def smallB (c : UInt8) : Bool := decide (97 ≤ (c.toNat : Int)) && decide ((c.toNat : Int) ≤ 122)
def digitB (c : UInt8) : Bool := decide (48 ≤ (c.toNat : Int)) && decide ((c.toNat : Int) ≤ 57)

theorem u8_all {p : UInt8 → Prop} (h : ∀ n : Fin 256, p (UInt8.ofNat n.val)) (c : UInt8) : p c := by
  have h1 := h ⟨c.toNat, c.toNat_lt⟩
  have e : UInt8.ofNat c.toNat = c := UInt8.ofNat_toNat
  simpa [e] using h1
theorem setH_is (c : UInt8) : inSet setH c = (smallB c || digitB c || decide ((c.toNat : Int) = 45)) := by
  revert c
  apply u8_all
  decide +kernel
theorem setD_is (c : UInt8) : inSet setD c = (smallB c || digitB c) := by
  revert c
  apply u8_all
  decide +kernel
theorem setL_is (c : UInt8) : inSet setL c = smallB c := by
  revert c
  apply u8_all
  decide +kernel

theorem small_any (c : UInt8) (w : World) : Calls Tryz.prog 32 #[.int .u8 (c.toNat : Int)] w fun e w' => e = .returned (.bool (smallB c)) ∧ w' = w := by
  by_cases h : 97 ≤ (c.toNat : Int)
  · have hr : smallB c = decide ((c.toNat : Int) ≤ 122) := by rw [smallB, decide_eq_true h, Bool.true_and]
    rw [hr]
    clear hr
    generalize (c.toNat : Int) = n at *
    go_enter Tryz.func32, Tryz.ntmps32
    go_wp2
    go_ret
    exact ⟨rfl, rfl⟩
  · have hr : smallB c = false := by rw [smallB, decide_eq_false h, Bool.false_and]
    rw [hr]
    clear hr
    generalize (c.toNat : Int) = n at *
    go_enter Tryz.func32, Tryz.ntmps32
    go_wp2
    go_ret
    exact ⟨rfl, rfl⟩
theorem digit_any (c : UInt8) (w : World) : Calls Tryz.prog 33 #[.int .u8 (c.toNat : Int)] w fun e w' => e = .returned (.bool (digitB c)) ∧ w' = w := by
  by_cases h : 48 ≤ (c.toNat : Int)
  · have hr : digitB c = decide ((c.toNat : Int) ≤ 57) := by rw [digitB, decide_eq_true h, Bool.true_and]
    rw [hr]
    clear hr
    generalize (c.toNat : Int) = n at *
    go_enter Tryz.func33, Tryz.ntmps33
    go_wp2
    go_ret
    exact ⟨rfl, rfl⟩
  · have hr : digitB c = false := by rw [digitB, decide_eq_false h, Bool.false_and]
    rw [hr]
    clear hr
    generalize (c.toNat : Int) = n at *
    go_enter Tryz.func33, Tryz.ntmps33
    go_wp2
    go_ret
    exact ⟨rfl, rfl⟩

theorem allIn_false {set s : ByteArray} {k : Nat} {hk : k < s.size} (h : inSet set s[k] = false) : allIn set s = false := by
  rw [Bool.eq_false_iff]
  intro ha
  rw [(allIn_iff set s).1 ha k hk] at h
  cases h
theorem allIn_true {set s : ByteArray} (h : allTo set s s.size) : allIn set s = true := (allIn_iff set s).2 fun j hj => h j hj hj

set_option maxHeartbeats 1000000 in
theorem refPart_any (s : ByteArray) (w : World) (hs : s.size ≤ 9223372036854775807) : Calls Tryz.prog 44 #[.string s] w fun e w' => e = .returned (.bool (partB s)) ∧ w' = w := by
  go_enter Tryz.func44, Tryz.ntmps44
  go_wp2
  go_loopg [3] s.size (fun k v wr => ∃ j : Nat, j + k = s.size ∧ v = .int .i64 j ∧ wr = w ∧ allTo setH s j)
  case atStart => exact ⟨0, by omega, rfl, rfl, fun i hi => absurd hi (by omega)⟩
  case round =>
    obtain ⟨j, hj, rfl, rfl, hall⟩ := hrel
    have HA := Lib.hid hall
    clear hall
    by_cases hlt : j < s.size
    · have hi := setH_is s[j]
      have hf : inSet setH s[j] = false → partB s = false := fun h => by rw [partB, allIn_false h, Bool.and_false]
      have ht : inSet setH s[j] = true → allTo setH s (j + 1) := fun h => allTo_succ HA.out h
      have c1 := small_any s[j] wr
      have c2 := digit_any s[j] wr
      have HI := Lib.hid hi
      have HF := Lib.hid hf
      have HT := Lib.hid ht
      clear hi hf ht
      cases h1 : smallB s[j]
      · rw [h1] at c1
        cases h2 : digitB s[j]
        · rw [h2] at c2
          by_cases h3 : (s[j].toNat : Int) = 45
          · have ht : allTo setH s (j + 1) := HT.out (by rw [HI.out, h1, h2, decide_eq_true h3]; rfl)
            have HT2 := Lib.hid ht
            have h3b : ((s[j].toNat : Int) != 45) = false := by simp [h3]
            clear h1 h2 ht h3
            go_wp2_with fail
            refine c1.mono ?_
            rintro e w1 ⟨rfl, rfl⟩
            go_wp2_with fail
            refine c2.mono ?_
            rintro e w2 ⟨rfl, rfl⟩
            go_wp2
            go_roundg (s.size - (j + 1))
            case measure => omega
            case rel => exact ⟨j + 1, by omega, by go_num, rfl, HT2.out⟩
          · have hf : partB s = false := HF.out (by rw [HI.out, h1, h2, decide_eq_false h3]; rfl)
            have HF2 := Lib.hid hf
            have h3b : ((s[j].toNat : Int) != 45) = true := by simpa using h3
            clear h1 h2 hf h3
            go_wp2_with fail
            refine c1.mono ?_
            rintro e w1 ⟨rfl, rfl⟩
            go_wp2_with fail
            refine c2.mono ?_
            rintro e w2 ⟨rfl, rfl⟩
            go_wp2
            go_ret
            exact ⟨ret_bool HF2.out.symm, rfl⟩
        · rw [h2] at c2
          have ht : allTo setH s (j + 1) := HT.out (by rw [HI.out, h1, h2]; rfl)
          have HT2 := Lib.hid ht
          clear h1 h2 ht
          go_wp2_with fail
          refine c1.mono ?_
          rintro e w1 ⟨rfl, rfl⟩
          go_wp2_with fail
          refine c2.mono ?_
          rintro e w2 ⟨rfl, rfl⟩
          go_wp2
          go_roundg (s.size - (j + 1))
          case measure => omega
          case rel => exact ⟨j + 1, by omega, by go_num, rfl, HT2.out⟩
      · rw [h1] at c1
        have ht : allTo setH s (j + 1) := HT.out (by rw [HI.out, h1]; rfl)
        have HT2 := Lib.hid ht
        clear h1 ht
        go_wp2_with fail
        refine c1.mono ?_
        rintro e w1 ⟨rfl, rfl⟩
        go_wp2
        go_roundg (s.size - (j + 1))
        case measure => omega
        case rel => exact ⟨j + 1, by omega, by go_num, rfl, HT2.out⟩
    · have hje : j = s.size := by omega
      subst hje
      have hp : partB s = (decide (1 ≤ s.size) && decide (s.size ≤ 20)) := by rw [partB, allIn_true HA.out, Bool.and_true]
      have HP := Lib.hid hp
      clear hp
      by_cases h0 : s.size = 0
      · go_wp2
        go_ret
        exact ⟨ret_bool (by rw [HP.out, decide_eq_false (by omega : ¬ 1 ≤ s.size), Bool.false_and]), rfl⟩
      · go_wp2
        go_ret
        exact ⟨ret_bool (by rw [HP.out, decide_eq_true (by omega : 1 ≤ s.size), Bool.true_and]; exact decide_eq_decide.2 (by omega)), rfl⟩
end Go.Proofs.YtbopkepjbifhhaaGreatDoor
