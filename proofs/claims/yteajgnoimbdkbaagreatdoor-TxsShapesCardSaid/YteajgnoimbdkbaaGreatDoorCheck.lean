/- coin.Check: may a denomination be? -/
import Derived.Test.YteajgnoimbdkbaaGreatDoorBase
import Derived.Test.YteajgnoimbdkbaaGreatDoorFault
import Derived.Test.YteajgnoimbdkbaaGreatDoorParse
namespace Go.Proofs.YteajgnoimbdkbaaGreatDoor
open Go.RowKit

def restOf (s : ByteArray) : ByteArray := ⟨(Lib.trimPrefix s.data.toList ibc.data.toList).toArray⟩
def isIbc (s : ByteArray) : Bool := Lib.hasPrefix s.data.toList ibc.data.toList
/-- .. as a number: 0 or 40. -/
def checkF (s : ByteArray) : Int := if baseB s || (isIbc s && shaOk (restOf s)) then 0 else 40
def CheckPost (s : ByteArray) (w : World) (e : Ending) (w' : World) : Prop := ∃ ev, e = .returned ev ∧ IsErr w' ev (checkF s) ∧ Below w.heap.size w w'

set_option maxRecDepth 100000 in
set_option maxHeartbeats 2000000 in
theorem check_any (s : ByteArray) (w : World) (hs : s.size ≤ 9223372036854775807) (hT : U8Tabs w) :
    Calls Tryz.prog 31 #[.string s] w (CheckPost s w) := by
  have cB := base_any s w hs hT
  have cC : ∀ W, Calls Tryz.prog 65 #[.string s, .string ⟨#[105, 98, 99, 47]⟩] W fun e w' => e = .returned (.tuple #[.string (restOf s), .bool (isIbc s)]) ∧ w' = W := fun W => Tryz.strings_CutPrefix s ⟨#[105, 98, 99, 47]⟩ W
  have hrs : (restOf s).size ≤ 9223372036854775807 := by
    have : (restOf s).size ≤ s.size := by
      show (Lib.trimPrefix s.data.toList ibc.data.toList).toArray.size ≤ _
      rw [List.size_toArray]
      unfold Lib.trimPrefix
      split <;> simp
    omega
  have cP : ∀ W, Calls Tryz.prog 66 #[.string (restOf s)] W fun e w' => ∃ f ev, e = .returned (.tuple #[bytesV 32 f, ev]) ∧ IsErr w' ev (if shaOk (restOf s) then 0 else 3) ∧ Below W.heap.size W w' := fun W => (shaParse_any (restOf s) W hrs).mono fun e w' ⟨ev, h1, h2, h3⟩ => ⟨_, ev, h1, h2, h3⟩
  have HC : Hid (checkF s = if baseB s || (isIbc s && shaOk (restOf s)) then 0 else 40) := Lib.hid rfl
  generalize restOf s = r at *
  cases hb : baseB s
  · rw [hb] at cB
    obtain ⟨n, hn⟩ : ∃ n : Int, (if shaOk r then (0 : Int) else 3) = n := ⟨_, rfl⟩
    rw [hn] at cP
    have hc : ∀ t, isIbc s = t → checkF s = if t = true ∧ n = 0 then 0 else 40 := fun t ht => by
      rw [HC.out, hb, ht, ← hn]
      cases t <;> cases shaOk r <;> rfl
    clear hn HC
    cases hi : isIbc s
    · rw [hi] at cC
      have HC2 := Lib.hid (hc _ hi)
      clear hb hi hc
      go_enter Tryz.func31, Tryz.ntmps31
      go_wp2_with fail
      refine cB.mono ?_
      rintro e w1 ⟨rfl, hb1⟩
      go_wp2_with fail
      refine (cC _).mono ?_
      rintro e w2 ⟨rfl, rfl⟩
      go_wp2_with fail
      refine (cP _).mono ?_
      rintro e w3 ⟨f, ev, rfl, hE, hb3⟩
      have hM := marks_zeros w3 62 32
      have hB3 := hb1.trans (hb3.mono hb1.size)
      have hB4 := hB3.trans ((below_alloc w3 (.cells (Array.replicate 32 (.int .u8 0)) 62)).mono hB3.size)
      go_wp2_with (refine wpList_store_marks rfl _ _ 62 rfl w3.heap.size 32 (fun _ => 0) f (by kernel_rfl) rfl rfl hM ?_; intro w4 hM4 hG4)
      refine (fault_any _ _ _).mono ?_
      rintro e w5 ⟨rfl, rfl⟩
      have hB5 := hB4.grown hG4 hB4.size (fun k hk => by cases hk; exact hB3.size)
      go_wp2_with fail
      go_ret
      refine ⟨_, rfl, ?_, ?_⟩
      · rw [HC2.out, if_neg (by simp)]
        exact IsErr.fault (by decide) rfl rfl
      · exact hB5.alloc hB5.size _
    · rw [hi] at cC
      have HC2 := Lib.hid (hc _ hi)
      clear hb hi hc
      by_cases h0 : n = 0
      · subst h0
        go_enter Tryz.func31, Tryz.ntmps31
        go_wp2_with fail
        refine cB.mono ?_
        rintro e w1 ⟨rfl, hb1⟩
        go_wp2_with fail
        refine (cC _).mono ?_
        rintro e w2 ⟨rfl, rfl⟩
        go_wp2_with fail
        refine (cP _).mono ?_
        rintro e w3 ⟨f, ev, rfl, hE, hb3⟩
        obtain rfl := hE.zero
        have hM := marks_zeros w3 62 32
        have hB3 := hb1.trans (hb3.mono hb1.size)
        have hB4 := hB3.trans ((below_alloc w3 (.cells (Array.replicate 32 (.int .u8 0)) 62)).mono hB3.size)
        go_wp2_with (refine wpList_store_marks rfl _ _ 62 rfl w3.heap.size 32 (fun _ => 0) f (by kernel_rfl) rfl rfl hM ?_; intro w4 hM4 hG4)
        have hB5 := hB4.grown hG4 hB4.size (fun k hk => by cases hk; exact hB3.size)
        go_ret
        exact ⟨_, rfl, by rw [HC2.out, if_pos (by simp)]; exact IsErr.nil_ _, hB5⟩
      · go_enter Tryz.func31, Tryz.ntmps31
        go_wp2_with fail
        refine cB.mono ?_
        rintro e w1 ⟨rfl, hb1⟩
        go_wp2_with fail
        refine (cC _).mono ?_
        rintro e w2 ⟨rfl, rfl⟩
        go_wp2_with fail
        refine (cP _).mono ?_
        rintro e w3 ⟨f, ev, rfl, hE, hb3⟩
        obtain ⟨t, x, rfl⟩ := hE.iface h0
        have hM := marks_zeros w3 62 32
        have hB3 := hb1.trans (hb3.mono hb1.size)
        have hB4 := hB3.trans ((below_alloc w3 (.cells (Array.replicate 32 (.int .u8 0)) 62)).mono hB3.size)
        go_wp2_with (refine wpList_store_marks rfl _ _ 62 rfl w3.heap.size 32 (fun _ => 0) f (by kernel_rfl) rfl rfl hM ?_; intro w4 hM4 hG4)
        refine (fault_any _ _ _).mono ?_
        rintro e w5 ⟨rfl, rfl⟩
        have hB5 := hB4.grown hG4 hB4.size (fun k hk => by cases hk; exact hB3.size)
        go_wp2_with fail
        go_ret
        refine ⟨_, rfl, ?_, ?_⟩
        · rw [HC2.out, if_neg (by simp [h0])]
          exact IsErr.fault (by decide) rfl rfl
        · exact hB5.alloc hB5.size _
  · rw [hb] at cB
    have HC2 : Hid (checkF s = 0) := Lib.hid (by rw [HC.out, hb]; rfl)
    go_enter Tryz.func31, Tryz.ntmps31
    go_wp2_with fail
    refine cB.mono ?_
    rintro e w1 ⟨rfl, hb1⟩
    go_wp2_with fail
    go_ret
    exact ⟨_, rfl, by rw [HC2.out]; exact IsErr.nil_ _, hb1⟩
end Go.Proofs.YteajgnoimbdkbaaGreatDoor
