/- strings.Cut at one byte, and coin.end. -/
import Derived.Test.YtbopkepjbifhhaaGreatDoorEnd
import Derived.Deep.QuietTactic
import Derived.BigQuiet
namespace Go.Proofs.YtbopkepjbifhhaaGreatDoor
open Go.RowKit

def slash : ByteArray := ⟨#[47]⟩
/-- Where the first '/' stands, -1: nowhere. -/
def slashAt (s : ByteArray) : Int := Lib.indexByte s.data.toList 47

theorem indexByte_lt (l : List UInt8) (c : UInt8) : Lib.indexByte l c < l.length ∨ Lib.indexByte l c = -1 := by
  induction l with
  | nil => right; rfl
  | cons b l ih =>
    unfold Lib.indexByte
    split
    · left; simp
    · split
      · right; rfl
      · rcases ih with ih | ih
        · left; simp; omega
        · rename_i h1 h2
          rw [ih] at h2
          simp at h2

def cutA (s : ByteArray) : ByteArray := if 0 ≤ slashAt s then s.extract 0 (slashAt s).toNat else s
def cutB (s : ByteArray) : ByteArray := if 0 ≤ slashAt s then s.extract ((slashAt s).toNat + 1) s.size else ⟨#[]⟩

theorem cutlite_any (s : ByteArray) (w : World) (hs : s.size ≤ 9223372036854775807) :
    Calls Tryz.prog 61 #[.string s, .string ⟨#[47]⟩] w fun e w' => e = .returned (.tuple #[.string (cutA s), .string (cutB s), .bool (decide (0 ≤ slashAt s))]) ∧ Below w.heap.size w w' := by
  have c1 := Tryz.stringslite_Index_one s 47 w
  change Calls _ _ _ _ fun e w' => e = .returned (.int .i64 (slashAt s)) ∧ w' = w at c1
  have hge : -1 ≤ slashAt s := Lib.indexByte_ge _ _
  have hlt : slashAt s < s.size ∨ slashAt s = -1 := by have := indexByte_lt s.data.toList 47; simpa [slashAt] using this
  by_cases h : 0 ≤ slashAt s
  · have hA : cutA s = s.extract 0 (slashAt s).toNat := by simp [cutA, h]
    have hB : cutB s = s.extract ((slashAt s).toNat + 1) s.size := by simp [cutB, h]
    obtain ⟨n, hn⟩ := Int.eq_ofNat_of_zero_le h
    have hD : decide (0 ≤ slashAt s) = true := decide_eq_true h
    rw [hn, Int.toNat_natCast] at hA hB
    rw [hA, hB, hD]
    rw [hn] at c1
    have hlt' : n < s.size := by omega
    clear hA hB hD hge hlt h hn
    go_enter Tryz.func61, Tryz.ntmps61
    go_wp2_with (go_at_call 77; refine c1.mono ?_; rintro e w1 ⟨rfl, rfl⟩)
    go_quiet (fail)
    go_wp2
    go_ret3
    exact ⟨rfl, below_drewN (Below.refl _ _) _⟩
  · have hA : cutA s = s := by simp [cutA, h]
    have hB : cutB s = ⟨#[]⟩ := by simp [cutB, h]
    have hD : decide (0 ≤ slashAt s) = false := decide_eq_false h
    have hm : slashAt s = -1 := by omega
    rw [hA, hB, hD]
    rw [hm] at c1
    clear hA hB hD hge hlt h hm
    go_enter Tryz.func61, Tryz.ntmps61
    go_wp2_with (go_at_call 77; refine c1.mono ?_; rintro e w1 ⟨rfl, rfl⟩)
    go_ret3
    exact ⟨rfl, Below.refl _ _⟩

theorem cut_any (s : ByteArray) (w : World) (hs : s.size ≤ 9223372036854775807) :
    Calls Tryz.prog 38 #[.string s, .string ⟨#[47]⟩] w fun e w' => e = .returned (.tuple #[.string (cutA s), .string (cutB s), .bool (decide (0 ≤ slashAt s))]) ∧ Below w.heap.size w w' := by
  have c1 := cutlite_any s w hs
  generalize decide (0 ≤ slashAt s) = d at *
  go_enter Tryz.func38, Tryz.ntmps38
  go_wp2_with (go_at_call 61; refine c1.mono ?_; rintro e w1 ⟨rfl, hb⟩)
  go_ret3
  exact ⟨rfl, hb⟩

theorem cutA_size (s : ByteArray) : (cutA s).size ≤ s.size := by
  unfold cutA
  split
  · simp; omega
  · exact Nat.le_refl _
theorem cutB_size (s : ByteArray) : (cutB s).size ≤ s.size := by
  unfold cutB
  split
  · simp
  · exact Nat.zero_le _

/-- Is a text an end of a way: a port and a channel? -/
def endB (s : ByteArray) : Bool := !s.toList.isEmpty && (portS (cutA s) (cutB s)).toList == s.toList

theorem end_any (s : ByteArray) (w : World) (hs : s.size ≤ 9223372036854775807) (hT : U8Tabs w) :
    Calls Tryz.prog 20 #[.string s] w fun e w' => e = .returned (.bool (endB s)) ∧ Below w.heap.size w w' := by
  have c1 := cut_any s w hs
  have c2 : ∀ w1, Below w.heap.size w w1 → Calls Tryz.prog 39 #[.string (cutA s), .string (cutB s)] w1 _ := fun w1 hb => port_any (cutA s) (cutB s) w1 (Nat.le_trans (cutA_size s) hs) (Nat.le_trans (cutB_size s) hs) (Utf8Tabs_below hT hb)
  have HR : Hid (endB s = (!s.toList.isEmpty && (portS (cutA s) (cutB s)).toList == s.toList)) := Lib.hid rfl
  clear hT
  generalize decide (0 ≤ slashAt s) = d at *
  generalize cutA s = a at *
  generalize cutB s = b at *
  generalize portS a b = r at *
  cases he : s.toList.isEmpty
  · have HE := Lib.hid he
    have hz : s.toList ≠ [] := by intro h; rw [h] at he; cases he
    clear he
    go_enter Tryz.func20, Tryz.ntmps20
    go_wp2_with fail
    refine c1.mono ?_
    rintro e w1 ⟨rfl, hb1⟩
    go_wp2_with fail
    refine (c2 w1 hb1).mono ?_
    rintro e w2 ⟨rfl, hb2⟩
    go_wp2
    go_ret
    exact ⟨ret_bool (by rw [HR.out, HE.out]), hb1.trans (hb2.mono hb1.size)⟩
  · have HE := Lib.hid he
    have hz : s.toList = [] := List.isEmpty_iff.1 he
    clear he
    go_enter Tryz.func20, Tryz.ntmps20
    go_wp2_with fail
    refine c1.mono ?_
    rintro e w1 ⟨rfl, hb1⟩
    go_wp2
    go_ret
    exact ⟨ret_bool (by rw [HR.out, HE.out]; rfl), hb1⟩
end Go.Proofs.YtbopkepjbifhhaaGreatDoor
