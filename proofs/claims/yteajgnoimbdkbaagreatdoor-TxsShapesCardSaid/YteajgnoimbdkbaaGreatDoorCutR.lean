/- coin.cutRight: a text without the letters of an ASCII set at its end; coin.of: has a text letters of a set alone? -/
import Derived.Test.YteajgnoimbdkbaaGreatDoorCut
import Derived.Test.YteajgnoimbdkbaaGreatDoorShelf
namespace Go.Proofs.YteajgnoimbdkbaaGreatDoor
open Go.RowKit

/-- The library's two tables of UTF-8. -/
def U8Tabs (w : World) : Prop := Lib.Utf8Tabs 3 4 w

theorem decodeLast_high (l : List UInt8) (h : l ≠ []) (hb : 128 ≤ (l.getD (l.length - 1) 0).toNat) : 128 ≤ (Lib.decodeLastL l).1 := by
  unfold Lib.decodeLastL
  rw [if_neg h, if_neg (by omega)]
  have hlt := Lib.lastStart_lt l h
  dsimp only
  split
  · rename_i heq
    have hsz : 0 < (⟨(l.drop (Lib.lastStart l)).toArray⟩ : ByteArray).size := by simp [ByteArray.size]; omega
    by_cases ha : ((⟨(l.drop (Lib.lastStart l)).toArray⟩ : ByteArray)[0]).toNat < 128
    · exfalso
      have e := decode_ascii _ 0 hsz ha
      have e2 : (Lib.decodeL (l.drop (Lib.lastStart l))).2 = 1 := by unfold Lib.decodeL; rw [e]
      have e3 : Lib.lastStart l = l.length - 1 := by omega
      have e4 : ((⟨(l.drop (Lib.lastStart l)).toArray⟩ : ByteArray)[0]) = l.getD (l.length - 1) 0 := by
        simp [ByteArray.getElem_eq_getElem_data, e3, List.getD_eq_getElem?_getD]
        rw [List.getElem?_eq_getElem (by omega)]; rfl
      rw [e4] at ha
      omega
    · exact (decode_high _ 0 hsz (by omega)).1
  · decide
theorem decodeLast_low (l : List UInt8) (h : l ≠ []) (hb : (l.getD (l.length - 1) 0).toNat < 128) : Lib.decodeLastL l = ((l.getD (l.length - 1) 0).toNat, 1) := by
  unfold Lib.decodeLastL
  rw [if_neg h, if_pos hb]

/-- The last rune of a text, held against an ASCII set: as its last byte. -/
theorem hasRune_last (set : ByteArray) (hset : ∀ b ∈ set.data.toList, b.toNat < 128) (l : List UInt8) (h : l ≠ []) :
    hasRune set ((Lib.decodeLastL l).1 : Int) set.size = inSet set (l.getD (l.length - 1) 0) := by
  by_cases ha : (l.getD (l.length - 1) 0).toNat < 128
  · rw [decodeLast_low l h ha]; exact hasRune_low set _
  · rw [hasRune_high set hset _ (by have := decodeLast_high l h (by omega); omega), inSet_high set hset _ (by omega)]
theorem width_last (set : ByteArray) (hset : ∀ b ∈ set.data.toList, b.toNat < 128) (l : List UInt8) (h : l ≠ []) (hin : inSet set (l.getD (l.length - 1) 0) = true) : (Lib.decodeLastL l).2 = 1 := by
  by_cases ha : (l.getD (l.length - 1) 0).toNat < 128
  · rw [decodeLast_low l h ha]
  · rw [inSet_high set hset _ (by omega)] at hin; cases hin

theorem allFrom_pred {set s : ByteArray} {n : Nat} (h : ∀ j, n ≤ j → ∀ h : j < s.size, inSet set s[j] = true) {hn : n - 1 < s.size} (h1 : inSet set s[n - 1] = true) : ∀ j, n - 1 ≤ j → ∀ h : j < s.size, inSet set s[j] = true := by
  intro j hj hl
  rcases Nat.lt_or_ge j n with hjp | hjp
  · have e : j = n - 1 := by omega
    subst e
    exact h1
  · exact h j hjp hl

/-- Which bytes are left: all bytes from n on are of the set, and the byte ahead of them isn't. -/
def CutRightPost (set s : ByteArray) (w : World) (e : Ending) (w' : World) : Prop :=
  ∃ n, n ≤ s.size ∧ (∀ j, n ≤ j → ∀ h : j < s.size, inSet set s[j] = true) ∧ (∀ h : n - 1 < s.size, 0 < n → inSet set s[n - 1] = false) ∧ e = .returned (.string (s.extract 0 n)) ∧ Below w.heap.size w w'

theorem last_of_extract (s : ByteArray) (n : Nat) (h0 : 0 < n) (hn : n ≤ s.size) : (s.extract 0 n).data.toList.getD ((s.extract 0 n).data.toList.length - 1) 0 = s[n - 1]'(by omega) := by
  have hsz : (s.extract 0 n).size = n := by simp; omega
  have hlen : (s.extract 0 n).data.toList.length = n := by simpa using hsz
  have hds : n - 1 < s.data.size := by have : s.data.size = s.size := rfl; omega
  rw [hlen]
  simp [List.getD_eq_getElem?_getD, ByteArray.getElem_eq_getElem_data]
  rw [List.getElem?_take_of_lt (by omega), Array.getElem?_toList, Array.getElem?_eq_getElem hds]
  rfl
theorem extract_extract_left (s : ByteArray) (n m : Nat) (h : m ≤ n) : (s.extract 0 n).extract 0 m = s.extract 0 m := by
  apply ByteArray.ext
  simp [Nat.min_eq_left h]

set_option maxRecDepth 100000 in
set_option maxHeartbeats 1000000 in
theorem cutRight_any (set s : ByteArray) (hset : ∀ b ∈ set.data.toList, b.toNat < 128) (w : World) (hs : s.size ≤ 9223372036854775807) (hT : U8Tabs w) :
    Calls Tryz.prog 148 #[.string s, .string set] w (CutRightPost set s w) := by
  have HS := Lib.hid hset
  clear hset
  go_enter Tryz.func148, Tryz.ntmps148
  go_wp2
  go_loopg [0] s.size (fun k v wr => ∃ n x, n = k ∧ n ≤ s.size ∧ x = s.extract 0 n ∧ v = .string x ∧ Below w.heap.size w wr ∧ (∀ j, n ≤ j → ∀ h : j < s.size, inSet set s[j] = true))
  case atStart => exact ⟨s.size, s, rfl, Nat.le_refl _, by rw [ByteArray.extract_zero_size], rfl, Below.refl _ _, fun j hj h => absurd h (by omega)⟩
  case round =>
    obtain ⟨n, x, rfl, hn, hx, rfl, hb, hall⟩ := hrel
    have hsz : x.size = n := by rw [hx]; simp; omega
    have HA := Lib.hid hall
    have HB := Lib.hid hb
    clear hall
    by_cases hn0 : n = 0
    · subst hn0
      clear hb hsz
      have h0 : (s.extract 0 0) = ⟨#[]⟩ := ByteArray.ext (Array.eq_empty_of_size_eq_zero (by simp))
      obtain rfl : x = ⟨#[]⟩ := hx.trans h0
      clear hx
      go_wp2
      go_ret
      exact ⟨0, by omega, HA.out, fun _ h => absurd h (by omega), by rw [h0]; rfl, HB.out⟩
    · have hne : x.data.toList ≠ [] := by intro h; have : x.size = 0 := by rw [← ByteArray.size_data, ← Array.length_toList, h]; rfl
                                          omega
      have hlt : n - 1 < s.size := by omega
      have hR := hasRune_last set HS.out _ hne
      have hW := width_last set HS.out _ hne
      have hg : x.data.toList.getD (x.data.toList.length - 1) 0 = s[n - 1] := by rw [hx]; exact last_of_extract s n (by omega) hn
      rw [hg] at hR hW
      have hE : x.extract 0 (n - 1) = s.extract 0 (n - 1) := by rw [hx]; exact extract_extract_left s n (n - 1) (by omega)
      have HR := Lib.hid hR
      have HW := Lib.hid hW
      have HE := Lib.hid hE
      have HX := Lib.hid hx
      clear hR hW hE hx hg hne
      have hc := Tryz.utf8_DecodeLastRuneInString x wr (by omega) (Utf8Tabs_below hT hb)
      clear hb
      go_wp2_with (go_at_call 147; refine hc.mono ?_; rintro e wo ⟨rfl, hb1⟩)
      have hbo : Below w.heap.size w wo := HB.out.trans (hb1.mono HB.out.size)
      have HO := Lib.hid hbo
      clear hb1 hbo hc HB
      go_loopg [7] set.size (fun k v wi => ∃ q, q + k = set.size ∧ wi.heap[wo.heap.size]? = some (.stringIter set q) ∧ Below wo.heap.size wo wi ∧ v = .bool (hasRune set ((Lib.decodeLastL x.data.toList).1 : Int) q))
      case atStart => exact ⟨0, by omega, World.iter_heap _ _ _, below_alloc _ _, by rw [hasRune_zero]⟩
      case round =>
        obtain ⟨q, hq, hiq, hbq, rfl⟩ := hrel
        by_cases hql : q < set.size
        · have hasc : (set[q]).toNat < 128 := HS.out _ (by simp [ByteArray.getElem_eq_getElem_data])
          obtain ⟨wn, hnx, hin, hbn⟩ : ∃ wn : World, (∀ ty, (Instr.next (.pointer (some ⟨wo.heap.size, 0, none⟩)) true ty).run Tryz.prog wr = .ok (.tuple #[.bool true, .int .i64 q, .int .i32 (set[q]).toNat]) wn) ∧
              wn.heap[wo.heap.size]? = some (.stringIter set (q + 1)) ∧ Below wo.heap.size wo wn :=
            ⟨_, fun ty => Lib.run_next_ascii_at wr wo.heap.size set q ty hiq hql hasc, Lib.iterAt_heap _ _ _ _ _ hiq, Lib.below_iterAt hbq (Nat.le_refl _) _ _⟩
          have HN := Lib.hid hin
          have HQ := Lib.hid hbn
          have HU := Lib.hid (hasRune_succ set ((Lib.decodeLastL x.data.toList).1 : Int) q hql)
          clear hiq hbq hin hbn hasc
          generalize (set[q]).toNat = c at *
          cases hh : hasRune set ((Lib.decodeLastL x.data.toList).1 : Int) q
          all_goals
            have HH := Lib.hid hh
            clear hh
            go_wp2
            go_roundg (set.size - (q + 1))
            case measure => omega
            case rel => exact ⟨q + 1, by omega, HN.out, HQ.out, by rw [HU.out, HH.out]; rfl⟩
        · have hqe : q = set.size := by omega
          subst hqe
          have hnx : ∀ ty, (Instr.next (.pointer (some ⟨wo.heap.size, 0, none⟩)) true ty).run Tryz.prog wr = .ok (.tuple #[.bool false]) wr := fun ty => Lib.run_next_end_at wr wo.heap.size set set.size ty hiq hql
          have hbo : Below w.heap.size w wr := HO.out.trans (hbq.mono HO.out.size)
          have HB2 := Lib.hid hbo
          clear hbo hbq hiq HO
          cases hh : hasRune set ((Lib.decodeLastL x.data.toList).1 : Int) set.size
          · have HH := Lib.hid hh
            clear hh
            go_wp2
            go_ret
            have h1 : inSet set s[n - 1] = false := by rw [← HR.out]; exact HH.out
            exact ⟨n, hn, HA.out, fun _ _ => h1, by rw [← HX.out]; rfl, HB2.out⟩
          · have h1 : inSet set s[n - 1] = true := by rw [← HR.out]; exact hh
            have hw1 : (Lib.decodeLastL x.data.toList).2 = 1 := HW.out h1
            have HW1 := Lib.hid hw1
            have H1 := Lib.hid h1
            have HH := Lib.hid hh
            clear hh h1
            generalize (Lib.decodeLastL x.data.toList).2 = wd at *
            subst hw1
            go_wp2
            go_roundg (n - 1)
            case measure => omega
            case rel => exact ⟨n - 1, _, rfl, by omega, HE.out, rfl, HB2.out, allFrom_pred HA.out H1.out⟩

/-- Is each byte of a text one of a set's? -/
def allIn (set s : ByteArray) : Bool := s.data.toList.all fun b => inSet set b
theorem allIn_iff (set s : ByteArray) : allIn set s = true ↔ ∀ j, ∀ h : j < s.size, inSet set s[j] = true := by
  simp only [allIn, List.all_eq_true]
  constructor
  · intro h j hj
    exact h _ (by simp [ByteArray.getElem_eq_getElem_data])
  · intro h b hb
    obtain ⟨j, hj, rfl⟩ := List.mem_iff_getElem.1 hb
    exact h j (by simpa using hj)
/-- What is left of both ends is empty just where all bytes are of the set. -/
theorem cut_both {set s : ByteArray} {p n : Nat} (hp : p ≤ s.size) (hall : allTo set s p) (hend : ∀ h : p < s.size, inSet set s[p] = false)
    (hn : n ≤ (s.extract p s.size).size) (hall2 : ∀ j, n ≤ j → ∀ h : j < (s.extract p s.size).size, inSet set (s.extract p s.size)[j] = true) :
    ((s.extract p s.size).extract 0 n).toList.isEmpty = allIn set s := by
  rw [ByteArray.toList_eq]
  have hz : (s.extract p s.size).size = s.size - p := by simp
  rcases Nat.lt_or_ge p s.size with hlt | hge
  · have h1 : allIn set s = false := by
      rw [Bool.eq_false_iff]
      intro h
      have hx := hend hlt
      rw [(allIn_iff set s).1 h p hlt] at hx
      cases hx
    have h2 : n ≠ 0 := by
      intro h0
      have hx := hall2 0 (by omega) (by omega)
      have e : (s.extract p s.size)[0]'(by omega) = s[p] := by simp [ByteArray.getElem_eq_getElem_data]
      rw [e, hend hlt] at hx
      cases hx
    rw [h1, Bool.eq_false_iff]
    intro h
    have h3 : ((s.extract p s.size).extract 0 n).size = 0 := by
      rw [← ByteArray.size_data, ← Array.length_toList]
      exact List.length_eq_zero_iff.2 (List.isEmpty_iff.1 h)
    simp at h3
    omega
  · have h1 : allIn set s = true := (allIn_iff set s).2 fun j hj => hall j (by omega) hj
    rw [h1, List.isEmpty_iff, ← List.length_eq_zero_iff, Array.length_toList, ByteArray.size_data]
    simp
    omega

theorem ret_bool {a b : Bool} (h : a = b) : Ending.returned (.bool a) = .returned (.bool b) := by rw [h]

theorem of_any (set s : ByteArray) (hset : ∀ b ∈ set.data.toList, b.toNat < 128) (w : World) (hs : s.size ≤ 9223372036854775807) (hT : U8Tabs w) :
    Calls Tryz.prog 112 #[.string s, .string set] w fun e w' => e = .returned (.bool (allIn set s)) ∧ Below w.heap.size w w' := by
  go_enter Tryz.func112, Tryz.ntmps112
  have h1 := cutLeft_any set s hset w
  have h2 : ∀ x w1, x.size ≤ 9223372036854775807 → Below w.heap.size w w1 → Calls Tryz.prog 148 #[.string x, .string set] w1 (CutRightPost set x w1) := fun x w1 hx hb => cutRight_any set x hset w1 hx (Utf8Tabs_below hT hb)
  clear hset hT
  go_wp2_with (first | (go_at_call 149; refine h1.mono ?_; rintro e w1 ⟨p, hp, hall, hend, rfl, hb1⟩; have HP := Lib.hid hall; have HD := Lib.hid hend; clear hall hend h1) | (go_at_call 148; refine (h2 _ _ (by simp; omega) hb1).mono ?_; rintro e w2 ⟨n, hn, hall2, hend2, rfl, hb2⟩))
  go_ret
  exact ⟨ret_bool (cut_both hp HP.out HD.out hn hall2), hb1.trans (hb2.mono hb1.size)⟩
end Go.Proofs.YteajgnoimbdkbaaGreatDoor
