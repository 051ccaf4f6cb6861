/- coin.cutLeft: a text without the letters of an ASCII set at its begin. -/
import Derived.Test.YteajgnoimbdkbaaGreatDoorErrs
import Derived.Lib.OthersKept
namespace Go.Proofs.YteajgnoimbdkbaaGreatDoor
open Go.RowKit

/-- Is a byte one of a set's? -/
def inSet (set : ByteArray) (b : UInt8) : Bool := set.data.toList.contains b
/-- All of a text's bytes from 0 up to p are of the set. -/
def allTo (set s : ByteArray) (p : Nat) : Prop := ∀ j, j < p → ∀ h : j < s.size, inSet set s[j] = true

/-- The rune read at a place is a letter of an ASCII set just where the byte there is. -/
def hasRune (set : ByteArray) (r : Int) (k : Nat) : Bool := (set.data.toList.take k).any fun b => decide (r = (b.toNat : Int))
theorem hasRune_zero (set : ByteArray) (r : Int) : hasRune set r 0 = false := by simp [hasRune]
theorem hasRune_succ (set : ByteArray) (r : Int) (k : Nat) (h : k < set.size) : hasRune set r (k + 1) = (hasRune set r k || decide (r = (set[k].toNat : Int))) := by
  have h' : k < set.data.toList.length := by simpa using h
  have e : set[k] = set.data.toList[k] := by simp [ByteArray.getElem_eq_getElem_data]
  simp only [hasRune]
  rw [List.take_succ_eq_append_getElem h', List.any_append, e]
  simp
theorem hasRune_low (set : ByteArray) (b : UInt8) : hasRune set (b.toNat : Int) set.size = inSet set b := by
  have e : set.data.toList.take set.size = set.data.toList := List.take_of_length_le (by simp)
  rw [hasRune, e, inSet, Bool.eq_iff_iff]
  simp only [List.any_eq_true, decide_eq_true_eq, List.contains_iff_mem]
  constructor
  · rintro ⟨x, hx, he⟩
    have : b = x := UInt8.toNat_inj.1 (by omega)
    exact this ▸ hx
  · intro h; exact ⟨b, h, rfl⟩
theorem hasRune_high (set : ByteArray) (hset : ∀ b ∈ set.data.toList, b.toNat < 128) (r : Int) (hr : 128 ≤ r) (k : Nat) : hasRune set r k = false := by
  rw [hasRune, List.any_eq_false]
  intro x hx
  have := hset x (List.mem_of_mem_take hx)
  simp only [decide_eq_true_eq]
  omega
theorem inSet_high (set : ByteArray) (hset : ∀ b ∈ set.data.toList, b.toNat < 128) (b : UInt8) (hb : 128 ≤ b.toNat) : inSet set b = false := by
  rw [Bool.eq_false_iff]
  intro h
  have := hset b (by simpa [inSet] using h)
  omega
/-- The rune at a place, held against the set: as the byte there. -/
theorem hasRune_decode (set s : ByteArray) (hset : ∀ b ∈ set.data.toList, b.toNat < 128) (p : Nat) (h : p < s.size) : hasRune set ((Utf8.decode s p).1 : Int) set.size = inSet set s[p] := by
  by_cases ha : s[p].toNat < 128
  · rw [decode_ascii s p h ha]; exact hasRune_low set s[p]
  · rw [hasRune_high set hset _ (by have := (decode_high s p h (by omega)).1; omega), inSet_high set hset _ (by omega)]
theorem width_in (set s : ByteArray) (hset : ∀ b ∈ set.data.toList, b.toNat < 128) (p : Nat) (h : p < s.size) (hin : inSet set s[p] = true) : (Utf8.decode s p).2 = 1 := by
  by_cases ha : s[p].toNat < 128
  · rw [decode_ascii s p h ha]
  · rw [inSet_high set hset _ (by omega)] at hin; cases hin

theorem allTo_succ {set s : ByteArray} {p : Nat} (h : allTo set s p) {hp : p < s.size} (h1 : inSet set s[p] = true) : allTo set s (p + 1) := by
  intro j hj hl
  rcases Nat.lt_or_ge j p with hjp | hjp
  · exact h j hjp hl
  · obtain rfl : j = p := by omega
    exact h1
theorem extract_end (s : ByteArray) : s.extract s.size s.size = ⟨#[]⟩ := by
  apply ByteArray.ext
  simp

def CutLeftPost (set s : ByteArray) (w : World) (e : Ending) (w' : World) : Prop :=
  ∃ p, p ≤ s.size ∧ allTo set s p ∧ (∀ h : p < s.size, inSet set s[p] = false) ∧ e = .returned (.string (s.extract p s.size)) ∧ Below w.heap.size w w'

set_option maxRecDepth 100000 in
set_option maxHeartbeats 1000000 in
theorem cutLeft_any (set s : ByteArray) (hset : ∀ b ∈ set.data.toList, b.toNat < 128) (w : World) :
    Calls Tryz.prog 149 #[.string s, .string set] w (CutLeftPost set s w) := by
  have HS := Lib.hid hset
  clear hset
  go_enter Tryz.func149, Tryz.ntmps149
  go_wp2
  go_loopg [7] s.size (fun k _ wr => ∃ p, p + k = s.size ∧ wr.heap[w.heap.size]? = some (.stringIter s p) ∧ Below w.heap.size w wr ∧ allTo set s p)
  case atStart => exact ⟨0, by omega, World.iter_heap _ _ _, below_alloc _ _, fun j hj => absurd hj (by omega)⟩
  case round =>
    obtain ⟨p, hp, hit, hb, hall⟩ := hrel
    by_cases hlt : p < s.size
    · obtain ⟨wo, hnx, hio, hbo⟩ : ∃ wo : World, (∀ ty, (Instr.next (.pointer (some ⟨w.heap.size, 0, none⟩)) true ty).run Tryz.prog wr = .ok (.tuple #[.bool true, .int .i64 p, .int .i32 (Utf8.decode s p).1]) wo) ∧
          wo.heap[w.heap.size]? = some (.stringIter s (p + (Utf8.decode s p).2)) ∧ Below w.heap.size w wo :=
        ⟨_, fun ty => Lib.run_next_any_at wr w.heap.size s p ty hit hlt, Lib.iterAt_heap _ _ _ _ _ hit, Lib.below_iterAt hb (Nat.le_refl _) _ _⟩
      clear hit hb
      have hsize : w.heap.size < wo.heap.size := (Array.getElem?_eq_some_iff.1 hio).1
      have HR := Lib.hid (hasRune_decode set s HS.out p hlt)
      have HW := Lib.hid (width_in set s HS.out p hlt)
      have HA := Lib.hid hall
      have HI := Lib.hid hio
      have HB := Lib.hid hbo
      clear hall hio hbo
      go_wp2
      clear hnx
      go_loopg [7] set.size (fun k v wi => ∃ q, q + k = set.size ∧ wi.heap[wo.heap.size]? = some (.stringIter set q) ∧ Below wo.heap.size wo wi ∧ v = .bool (hasRune set ((Utf8.decode s p).1 : Int) q))
      case atStart => exact ⟨0, by omega, World.iter_heap _ _ _, below_alloc _ _, by rw [hasRune_zero]⟩
      case round =>
        obtain ⟨q, hq, hiq, hbq, rfl⟩ := hrel
        by_cases hql : q < set.size
        · have hasc : (set[q]).toNat < 128 := HS.out _ (by simp [ByteArray.getElem_eq_getElem_data])
          obtain ⟨wn, hnx, hin, hbn⟩ : ∃ wn : World, (∀ ty, (Instr.next (.pointer (some ⟨wo.heap.size, 0, none⟩)) true ty).run Tryz.prog wr = .ok (.tuple #[.bool true, .int .i64 q, .int .i32 (set[q]).toNat]) wn) ∧
              wn.heap[wo.heap.size]? = some (.stringIter set (q + 1)) ∧ Below wo.heap.size wo wn :=
            ⟨_, fun ty => Lib.run_next_ascii_at wr wo.heap.size set q ty hiq hql hasc, Lib.iterAt_heap _ _ _ _ _ hiq, Lib.below_iterAt hbq (Nat.le_refl _) _ _⟩
          have HN := Lib.hid hin
          have HQ := Lib.hid hbn
          have HU := Lib.hid (hasRune_succ set ((Utf8.decode s p).1 : Int) q hql)
          clear hiq hbq hin hbn hasc
          generalize hc : (set[q]).toNat = c at *
          have HC := Lib.hid hc
          clear hc
          cases hh : hasRune set ((Utf8.decode s p).1 : Int) q
          · have HH := Lib.hid hh
            clear hh
            go_wp2
            go_roundg (set.size - (q + 1))
            case measure => omega
            case rel => exact ⟨q + 1, by omega, HN.out, HQ.out, by rw [HU.out, HH.out]; rfl⟩
          · have HH := Lib.hid hh
            clear hh
            go_wp2
            go_roundg (set.size - (q + 1))
            case measure => omega
            case rel => exact ⟨q + 1, by omega, HN.out, HQ.out, by rw [HU.out, HH.out]; rfl⟩
        · have hqe : q = set.size := by omega
          subst hqe
          have hnx : ∀ ty, (Instr.next (.pointer (some ⟨wo.heap.size, 0, none⟩)) true ty).run Tryz.prog wr = .ok (.tuple #[.bool false]) wr := fun ty => Lib.run_next_end_at wr wo.heap.size set set.size ty hiq hql
          have hio : wr.heap[w.heap.size]? = some (.stringIter s (p + (Utf8.decode s p).2)) := (hbq.block _ hsize).trans HI.out
          have hbo : Below w.heap.size w wr := HB.out.trans (hbq.mono (by omega))
          have HI2 := Lib.hid hio
          have HB2 := Lib.hid hbo
          clear hio hbo hbq hiq HI HB
          cases hh : hasRune set ((Utf8.decode s p).1 : Int) set.size
          · have HH := Lib.hid hh
            clear hh
            go_wp2
            go_ret
            have h1 : inSet set s[p] = false := by rw [← HR.out]; exact HH.out
            exact ⟨p, by omega, HA.out, fun _ => h1, rfl, HB2.out⟩
          · have HH := Lib.hid hh
            clear hh
            have hw1 : (Utf8.decode s p).2 = 1 := HW.out (by rw [← HR.out]; exact HH.out)
            have HW1 := Lib.hid hw1
            clear hw1
            go_wp2
            go_roundg (s.size - (p + 1))
            case measure => omega
            case rel =>
              have h1 : inSet set s[p] = true := by rw [← HR.out]; exact HH.out
              refine ⟨p + 1, by omega, by have := HI2.out; rw [HW1.out] at this; exact this, HB2.out, allTo_succ HA.out h1⟩
    · have hnx : ∀ ty, (Instr.next (.pointer (some ⟨w.heap.size, 0, none⟩)) true ty).run Tryz.prog wr = .ok (.tuple #[.bool false]) wr := fun ty => Lib.run_next_end_at wr w.heap.size s p ty hit hlt
      have hpe : p = s.size := by omega
      subst hpe
      have HA := Lib.hid hall
      have HB := Lib.hid hb
      clear hall hb hit
      go_wp2
      go_ret
      exact ⟨s.size, Nat.le_refl _, HA.out, fun h => absurd h (Nat.lt_irrefl _), by rw [extract_end]; rfl, HB.out⟩
end Go.Proofs.YteajgnoimbdkbaaGreatDoor
