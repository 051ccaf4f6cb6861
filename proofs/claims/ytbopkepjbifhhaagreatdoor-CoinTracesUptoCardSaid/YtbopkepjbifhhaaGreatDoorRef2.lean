/- The document's end, Base and Port. -/
import Derived.Test.YtbopkepjbifhhaaGreatDoorRef
namespace Go.Proofs.YtbopkepjbifhhaaGreatDoor
open Go.RowKit

theorem indexByte_first (l : List UInt8) (c : UInt8) (k : Nat) (hk : k < l.length) (hne : ∀ j (h : j < k), l[j] ≠ c) (he : l[k] = c) : Lib.indexByte l c = k := by
  induction l generalizing k with
  | nil => simp at hk
  | cons b l ih =>
    cases k with
    | zero =>
      simp only [List.getElem_cons_zero] at he
      subst he
      simp [Lib.indexByte]
    | succ k =>
      have h0 := hne 0 (by omega)
      simp only [List.getElem_cons_zero] at h0
      have := ih k (by simpa using hk) (fun j h => by simpa using hne (j + 1) (by omega)) (by simpa using he)
      unfold Lib.indexByte
      rw [if_neg (by simpa using h0), this, if_neg (by simp)]
      omega
theorem indexByte_none (l : List UInt8) (c : UInt8) (hne : ∀ j (h : j < l.length), l[j] ≠ c) : Lib.indexByte l c = -1 := by
  induction l with
  | nil => rfl
  | cons b l ih =>
    have h0 := hne 0 (by simp)
    simp only [List.getElem_cons_zero] at h0
    have := ih fun j h => by have := hne (j + 1) (by simpa using h); rwa [List.getElem_cons_succ] at this
    unfold Lib.indexByte
    rw [if_neg (by simpa using h0), this]
    rfl
theorem slashAt_first (s : ByteArray) (k : Nat) (hk : k < s.size) (hne : ∀ j (h : j < s.size), j < k → s[j] ≠ 47) (he : s[k] = 47) : slashAt s = k :=
  indexByte_first s.data.toList 47 k (by simpa using hk) (fun j h h2 => hne j (by omega) h (by rw [ByteArray.getElem_eq_getElem_data]; simpa using h2)) (by simpa [ByteArray.getElem_eq_getElem_data] using he)
theorem slashAt_none (s : ByteArray) (hne : ∀ j (h : j < s.size), s[j] ≠ 47) : slashAt s = -1 :=
  indexByte_none s.data.toList 47 fun j h h2 => hne j (by simpa using h) (by rw [ByteArray.getElem_eq_getElem_data]; simpa using h2)

theorem partB_empty : partB ⟨#[]⟩ = false := by decide +kernel
theorem beq_toList (a b : ByteArray) : (a.toList == b.toList) = decide (a = b) := by
  rw [ByteArray.toList_eq, ByteArray.toList_eq, Bool.eq_iff_iff]
  simp only [beq_iff_eq, decide_eq_true_eq]
  constructor
  · intro h; exact ByteArray.ext (Array.toList_inj.1 h)
  · rintro rfl; rfl
theorem isEmpty_toList (a : ByteArray) : a.toList.isEmpty = decide (a.size = 0) := by
  rw [ByteArray.toList_eq, Bool.eq_iff_iff]
  simp [← ByteArray.size_data]

/-- What a text with a '/' at k is made of. -/
theorem cut_join (s : ByteArray) (k : Nat) (hk : k < s.size) (he : s[k] = 47) : s.extract 0 k ++ ⟨#[47]⟩ ++ s.extract (k + 1) s.size = s := by
  apply ByteArray.ext
  apply Array.ext'
  have hd : k < s.data.toList.length := by simpa using hk
  have h1 : s.data.toList[k] = 47 := by simpa [ByteArray.getElem_eq_getElem_data] using he
  have hz : s.size = s.data.toList.length := by simp
  simp only [ByteArray.data_append, Array.toList_append, ByteArray.data_extract, Array.toList_extract, List.extract_eq_take_drop]
  rw [hz]
  simp only [List.drop_zero, Nat.sub_zero]
  have h2 : (s.data.toList.drop (k + 1)).take (s.data.toList.length - (k + 1)) = s.data.toList.drop (k + 1) := List.take_of_length_le (by simp)
  rw [h2, List.append_assoc]
  show s.data.toList.take k ++ ([47] ++ s.data.toList.drop (k + 1)) = s.data.toList
  rw [← h1, List.singleton_append, List.getElem_cons_drop, List.take_append_drop]

theorem endB_at (s : ByteArray) (k : Nat) (hk : k < s.size) (hne : ∀ j (h : j < s.size), j < k → s[j] ≠ 47) (he : s[k] = 47) :
    endB s = (partB (s.extract 0 k) && partB (s.extract (k + 1) s.size)) := by
  have ha := slashAt_first s k hk hne he
  have hA : cutA s = s.extract 0 k := by rw [cutA, ha, if_pos (by omega)]; rfl
  have hB : cutB s = s.extract (k + 1) s.size := by rw [cutB, ha, if_pos (by omega)]; rfl
  rw [endB, isEmpty_toList, beq_toList, hA, hB, decide_eq_false (by omega), Bool.not_false, Bool.true_and]
  cases h : (partB (s.extract 0 k) && partB (s.extract (k + 1) s.size))
  · rw [decide_eq_false]
    rw [portS, h]
    intro h2
    rw [← h2] at hk
    exact absurd hk (Nat.not_lt_zero _)
  · rw [decide_eq_true]
    rw [portS, h]
    exact cut_join s k hk he
theorem endB_none (s : ByteArray) (hne : ∀ j (h : j < s.size), s[j] ≠ 47) : endB s = false := by
  have ha := slashAt_none s hne
  have hB : cutB s = ⟨#[]⟩ := by rw [cutB, ha, if_neg (by omega)]
  rw [endB, isEmpty_toList, beq_toList, hB]
  have hp : portS (cutA s) ⟨#[]⟩ = ⟨#[]⟩ := by rw [portS, partB_empty, Bool.and_false]; rfl
  rw [hp]
  by_cases h : s.size = 0
  · rw [decide_eq_true h]; rfl
  · have : ¬ ((⟨#[]⟩ : ByteArray) = s) := by rintro rfl; exact h rfl
    rw [decide_eq_false this, Bool.and_false]

set_option maxHeartbeats 1000000 in
theorem refEnd_any (s : ByteArray) (w : World) (hs : s.size ≤ 9223372036854775807) : Calls Tryz.prog 24 #[.string s] w fun e w' => e = .returned (.bool (endB s)) ∧ w' = w := by
  go_enter Tryz.func24, Tryz.ntmps24
  go_wp2
  go_loopg [3] s.size (fun k v wr => ∃ j : Nat, j + k = s.size ∧ v = .int .i64 j ∧ wr = w ∧ (∀ i (h : i < s.size), i < j → s[i] ≠ 47))
  case atStart => exact ⟨0, by omega, rfl, rfl, fun i _ hi => absurd hi (by omega)⟩
  case round =>
    obtain ⟨j, hj, rfl, rfl, hall⟩ := hrel
    have HA := Lib.hid hall
    clear hall
    by_cases hlt : j < s.size
    · by_cases he : s[j] = 47
      · have heq := endB_at s j hlt HA.out he
        have c1 := refPart_any (s.extract 0 j) wr (by simp; omega)
        have c2 := refPart_any (s.extract (j + 1) s.size) wr (by simp; omega)
        have heb : ((s[j].toNat : Int) == 47) = true := by rw [he]; rfl
        have HE := Lib.hid heq
        clear heq he
        cases h1 : partB (s.extract 0 j)
        · rw [h1] at c1
          have HR : Hid (endB s = false) := Lib.hid (by rw [HE.out, h1]; rfl)
          clear h1
          go_wp2_with fail
          refine c1.mono ?_
          rintro e w1 ⟨rfl, rfl⟩
          go_wp2
          go_ret
          exact ⟨ret_bool HR.out.symm, rfl⟩
        · rw [h1] at c1
          have HR : Hid (endB s = partB (s.extract (j + 1) s.size)) := Lib.hid (by rw [HE.out, h1]; rfl)
          clear h1
          go_wp2_with fail
          refine c1.mono ?_
          rintro e w1 ⟨rfl, rfl⟩
          go_wp2_with fail
          refine c2.mono ?_
          rintro e w2 ⟨rfl, rfl⟩
          go_wp2
          go_ret
          exact ⟨ret_bool HR.out.symm, rfl⟩
      · have heb : ((s[j].toNat : Int) == 47) = false := by
          rw [beq_eq_false_iff_ne]
          intro h
          apply he
          apply UInt8.toNat_inj.1
          show s[j].toNat = 47
          omega
        have hn : ∀ i (h : i < s.size), i < j + 1 → s[i] ≠ 47 := fun i h hi => by
          rcases Nat.lt_or_ge i j with h1 | h1
          · exact HA.out i h h1
          · obtain rfl : i = j := by omega
            exact he
        have HN := Lib.hid hn
        clear hn he
        go_wp2
        go_roundg (s.size - (j + 1))
        case measure => omega
        case rel => exact ⟨j + 1, by omega, by go_num, rfl, HN.out⟩
    · have HR : Hid (endB s = false) := Lib.hid (endB_none s fun i h => HA.out i h (by omega))
      go_wp2
      go_ret
      exact ⟨ret_bool HR.out.symm, rfl⟩
end Go.Proofs.YtbopkepjbifhhaaGreatDoor
