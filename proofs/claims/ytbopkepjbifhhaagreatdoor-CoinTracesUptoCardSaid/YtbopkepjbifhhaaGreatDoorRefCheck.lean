/- isthmusref14.Check: may a denomination be? As the program's. -/
import Derived.Test.YtbopkepjbifhhaaGreatDoorRefHash
import Derived.Test.YtbopkepjbifhhaaGreatDoorCheck
import Derived.Test.YtbopkepjbifhhaaGreatDoorRef4
namespace Go.Proofs.YtbopkepjbifhhaaGreatDoor
open Go.RowKit

theorem isIbc_iff (s : ByteArray) : isIbc s = true ↔ s.extract 0 4 = ibc := by
  unfold isIbc Lib.hasPrefix
  rw [List.isPrefixOf_iff_prefix, List.prefix_iff_eq_take]
  have e : (s.extract 0 4).data.toList = s.data.toList.take 4 := by rw [Lib.extract_data]; simp
  have hl : ibc.data.toList.length = 4 := rfl
  rw [hl]
  constructor
  · intro h
    exact bytes_ext (by rw [e, ← h])
  · intro h
    rw [← e, h]
theorem restOf_is (s : ByteArray) (h : isIbc s = true) : restOf s = s.extract 4 s.size := by
  apply bytes_ext
  unfold isIbc at h
  show (Lib.trimPrefix s.data.toList ibc.data.toList) = _
  rw [Lib.trimPrefix, if_pos h, Lib.extract_to_end]
  rfl
theorem check_size {s : ByteArray} (h1 : isIbc s = true) (h2 : shaOk (restOf s) = true) : s.size = 68 := by
  have h3 := shaOk_size h2
  rw [restOf_is s h1, ByteArray.size_extract] at h3
  omega

def RefCheckPost (s : ByteArray) (w : World) (e : Ending) (w' : World) : Prop := e = .returned (.int .i64 (checkF s)) ∧ Below w.heap.size w w'

set_option maxRecDepth 100000 in
set_option maxHeartbeats 2000000 in
theorem refCheck_any (s : ByteArray) (w : World) (hs : s.size ≤ 9223372036854775807) :
    Calls Tryz.prog 16 #[.string s] w (RefCheckPost s w) := by
  have cB := refBase_any s w hs
  cases hb : baseB s
  · rw [hb] at cB
    by_cases h68 : s.size = 68
    · have h68i : (s.size : Int) = 68 := by omega
      have h68j : ¬((s.size : Int) < 4) := by omega
      by_cases hi : s.extract 0 4 = ibc
      · have hq : ((s.extract 0 4).toList == [105, 98, 99, 47]) = true := by rw [hi, toList_data]; rfl
        have hib := (isIbc_iff s).2 hi
        have cP := fun W => refHash_any (s.extract 4 68) W
        unfold RefHashPost at cP
        have hc : checkF s = if shaOk (s.extract 4 68) then 0 else 40 := by rw [checkF, hb, hib, restOf_is s hib, h68]; simp
        clear hb hi hib
        cases hok : shaOk (s.extract 4 68)
        · rw [hok] at cP hc
          have HC := Lib.hid hc
          clear hok hc
          simp only [Bool.false_eq_true, if_false] at cP
          go_enter Tryz.func16, Tryz.ntmps16
          go_wp2_with fail
          refine cB.mono ?_
          rintro e w1 ⟨rfl, rfl⟩
          go_wp2_with fail
          refine (cP _).mono ?_
          rintro e w3 ⟨rfl, hb3⟩
          have hM := marks_zeros w3 51 32
          have hB4 := hb3.trans ((below_alloc w3 (.cells (Array.replicate 32 (.int .u8 0)) 51)).mono hb3.size)
          go_wp2_with (refine wpList_store_marks rfl _ _ 51 rfl w3.heap.size 32 (fun _ => 0) (fun _ => 0) (by kernel_rfl) rfl rfl hM ?_; intro w4 hM4 hG4)
          have hB5 := hB4.grown hG4 hB4.size (fun k hk => by cases hk; exact hb3.size)
          go_ret
          exact ⟨by rw [HC.out]; rfl, hB5⟩
        · rw [hok] at cP hc
          have HC := Lib.hid hc
          clear hok hc
          simp only [if_true] at cP
          go_enter Tryz.func16, Tryz.ntmps16
          go_wp2_with fail
          refine cB.mono ?_
          rintro e w1 ⟨rfl, rfl⟩
          go_wp2_with fail
          refine (cP _).mono ?_
          rintro e w3 ⟨rfl, hb3⟩
          have hM := marks_zeros w3 51 32
          have hB4 := hb3.trans ((below_alloc w3 (.cells (Array.replicate 32 (.int .u8 0)) 51)).mono hb3.size)
          go_wp2_with (refine wpList_store_marks rfl _ _ 51 rfl w3.heap.size 32 (fun _ => 0) (parseV (s.extract 4 68)) (by kernel_rfl) rfl rfl hM ?_; intro w4 hM4 hG4)
          have hB5 := hB4.grown hG4 hB4.size (fun k hk => by cases hk; exact hb3.size)
          go_ret
          exact ⟨by rw [HC.out]; rfl, hB5⟩
      · have hq : ((s.extract 0 4).toList == [105, 98, 99, 47]) = false := by
          rw [beq_eq_false_iff_ne]
          intro h
          exact hi (bytes_ext (by rw [← toList_data, h]; rfl))
        have hib : isIbc s = false := by
          cases h : isIbc s
          · rfl
          · exact absurd ((isIbc_iff s).1 h) hi
        have HC : Hid (checkF s = 40) := Lib.hid (by rw [checkF, hb, hib]; rfl)
        clear hb hi hib
        go_enter Tryz.func16, Tryz.ntmps16
        go_wp2_with fail
        refine cB.mono ?_
        rintro e w1 ⟨rfl, rfl⟩
        go_wp2_with fail
        go_ret
        exact ⟨by rw [HC.out]; rfl, Below.refl _ _⟩
    · have h68i : ¬((s.size : Int) = 68) := by omega
      have hc : checkF s = 40 := by
        rw [checkF, hb]
        cases h1 : isIbc s
        · rfl
        · cases h2 : shaOk (restOf s)
          · rfl
          · exact absurd (check_size h1 h2) h68
      have HC := Lib.hid hc
      clear hb hc h68
      go_enter Tryz.func16, Tryz.ntmps16
      go_wp2_with fail
      refine cB.mono ?_
      rintro e w1 ⟨rfl, rfl⟩
      go_wp2_with fail
      go_ret
      exact ⟨by rw [HC.out]; rfl, Below.refl _ _⟩
  · rw [hb] at cB
    have hc : checkF s = 0 := by rw [checkF, hb]; rfl
    have HC := Lib.hid hc
    clear hb hc
    go_enter Tryz.func16, Tryz.ntmps16
    go_wp2_with fail
    refine cB.mono ?_
    rintro e w1 ⟨rfl, rfl⟩
    go_wp2_with fail
    go_ret
    exact ⟨by rw [HC.out]; rfl, Below.refl _ _⟩
end Go.Proofs.YtbopkepjbifhhaaGreatDoor
