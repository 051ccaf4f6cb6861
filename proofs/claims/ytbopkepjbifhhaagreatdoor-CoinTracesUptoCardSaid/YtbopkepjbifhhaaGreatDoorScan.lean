/- Where the parts of a text stand in it: plain laws. -/
import Derived.Test.YtbopkepjbifhhaaGreatDoorSlash
namespace Go.Proofs.YtbopkepjbifhhaaGreatDoor

theorem slash_cases : ∀ (s : List UInt8), (47 : UInt8) ∉ s ∨ ∃ a r, s = a ++ 47 :: r ∧ (47 : UInt8) ∉ a
  | [] => .inl (by simp)
  | x :: s => by
    by_cases h : x = 47
    · exact .inr ⟨[], s, by rw [h]; rfl, by simp⟩
    · rcases slash_cases s with h1 | ⟨a, r, rfl, h1⟩
      · exact .inl (by simp [Ne.symm h, h1])
      · exact .inr ⟨x :: a, r, rfl, by simp [Ne.symm h, h1]⟩
/-- Where a part begins. -/
def offL (l : List (List UInt8)) : Nat → Nat
  | 0 => 0
  | k + 1 => offL l k + (l.getD k []).length + 1
theorem offL_cons (a : List UInt8) (l : List (List UInt8)) : ∀ k, offL (a :: l) (k + 1) = a.length + 1 + offL l k
  | 0 => by simp [offL]
  | k + 1 => by rw [offL, offL_cons a l k, offL, List.getD_cons_succ]; omega
theorem place : ∀ (n : Nat) (s : List UInt8), s.length ≤ n → ∀ k, k < (Lib.split s [47]).length →
    ∃ pre post, s = pre ++ (Lib.split s [47]).getD k [] ++ post ∧ pre.length = offL (Lib.split s [47]) k ∧ (47 : UInt8) ∉ (Lib.split s [47]).getD k [] ∧
      (k + 1 < (Lib.split s [47]).length → ∃ post', post = 47 :: ((Lib.split s [47]).getD (k + 1) [] ++ post')) ∧ (k + 1 = (Lib.split s [47]).length → post = [])
  | 0, s, hn, k, hk => by
    obtain rfl : s = [] := List.eq_nil_of_length_eq_zero (by omega)
    rw [split_one47 [] (by simp)] at hk ⊢
    obtain rfl : k = 0 := by simpa using hk
    exact ⟨[], [], rfl, rfl, by simp, fun h => by simp at h, fun _ => rfl⟩
  | n + 1, s, hn, k, hk => by
    rcases slash_cases s with h | ⟨a, r, rfl, h⟩
    · rw [split_one47 s h] at hk ⊢
      obtain rfl : k = 0 := by simpa using hk
      exact ⟨[], [], by simp, rfl, by simpa using h, fun h => by simp at h, fun _ => rfl⟩
    · have hr : r.length ≤ n := by simp at hn; omega
      rw [split_skip a r h] at hk ⊢
      cases k with
      | zero =>
        refine ⟨[], 47 :: r, by simp, rfl, by simpa using h, fun h1 => ?_, fun h1 => ?_⟩
        · obtain ⟨pre, post, h2, h3, _⟩ := place n r hr 0 (by simpa using h1)
          obtain rfl : pre = [] := List.eq_nil_of_length_eq_zero h3
          exact ⟨post, by simpa using h2⟩
        · have h2 := partsL_pos r
          simp only [List.length_cons] at h1
          omega
      | succ k =>
        obtain ⟨pre, post, h2, h3, h4, h5, h6⟩ := place n r hr k (by simpa using hk)
        refine ⟨a ++ 47 :: pre, post, ?_, ?_, by simpa using h4, fun h1 => ?_, fun h1 => ?_⟩
        · rw [List.getD_cons_succ]
          conv => lhs; rw [h2]
          simp
        · rw [offL_cons, List.length_append, List.length_cons, h3]; omega
        · rw [List.getD_cons_succ]
          exact h5 (by simpa using h1)
        · exact h6 (by simpa using h1)
where
  partsL_pos (r : List UInt8) : 0 < (Lib.split r [47]).length := by
    unfold Lib.split
    cases Lib.count r [47] with
    | zero => simp [Lib.splitK]
    | succ k => unfold Lib.splitK; split <;> simp

def partN (s : ByteArray) (k : Nat) : ByteArray := (partsOf s).getD k ⟨#[]⟩
def offN (s : ByteArray) (k : Nat) : Nat := offL ((partsOf s).map (·.data.toList)) k
theorem partN_data (s : ByteArray) (k : Nat) : (Lib.split s.data.toList [47]).getD k [] = (partN s k).data.toList := by
  rw [← partsOf_data, partN, List.getD_eq_getElem?_getD, List.getElem?_map, List.getD_eq_getElem?_getD]
  cases (partsOf s)[k]? <;> rfl
theorem offN_zero (s : ByteArray) : offN s 0 = 0 := rfl
theorem size_list (s : ByteArray) : s.data.toList.length = s.size := by rw [Array.length_toList, ByteArray.size_data]
theorem offN_succ (s : ByteArray) (k : Nat) : offN s (k + 1) = offN s k + (partN s k).size + 1 := by
  show offL _ (k + 1) = _
  rw [offL, partsOf_data, partN_data, size_list, ← partsOf_data]
  rfl
theorem stands (s : ByteArray) (k : Nat) (hk : k < (partsOf s).length) : ∃ pre post, s.data.toList = pre ++ (partN s k).data.toList ++ post ∧ pre.length = offN s k ∧ (47 : UInt8) ∉ (partN s k).data.toList ∧
    (k + 1 < (partsOf s).length → ∃ post', post = 47 :: ((partN s (k + 1)).data.toList ++ post')) ∧ (k + 1 = (partsOf s).length → post = []) := by
  have hl : (partsOf s).length = (Lib.split s.data.toList [47]).length := by rw [← partsOf_data, List.length_map]
  obtain ⟨pre, post, h1, h2, h3, h4, h5⟩ := place _ s.data.toList (Nat.le_refl _) k (by omega)
  rw [partN_data] at h1 h3
  rw [partN_data] at h4
  rw [← partsOf_data] at h2
  exact ⟨pre, post, h1, h2, h3, fun h => h4 (by omega), fun h => h5 (by omega)⟩
/-- The last part ends with the text. -/
theorem part_last (s : ByteArray) (k : Nat) (hk : k + 1 = (partsOf s).length) : offN s k + (partN s k).size = s.size := by
  obtain ⟨pre, post, h1, h2, _, _, h5⟩ := stands s k (by omega)
  rw [h5 hk] at h1
  have := congrArg List.length h1
  simp only [List.length_append, List.length_nil, size_list] at this
  omega
theorem part_le (s : ByteArray) (k : Nat) (hk : k < (partsOf s).length) : offN s k + (partN s k).size ≤ s.size := by
  obtain ⟨pre, post, h1, h2, _⟩ := stands s k hk
  have := congrArg List.length h1
  simp only [List.length_append, size_list] at this
  omega
/-- A part's own bytes are no slashes. -/
theorem part_byte (s : ByteArray) (k i : Nat) (hk : k < (partsOf s).length) (h0 : offN s k ≤ i) (h1 : i < offN s k + (partN s k).size) (hi : i < s.size) : s[i] ≠ 47 := by
  obtain ⟨pre, post, e1, e2, e3, _⟩ := stands s k hk
  intro h
  apply e3
  have hl : s.data.toList[i]? = some 47 := by
    rw [List.getElem?_eq_getElem (by rw [size_list]; exact hi)]
    simpa [ByteArray.getElem_eq_getElem_data] using h
  rw [e1, List.append_assoc, List.getElem?_append_right (by omega), List.getElem?_append_left (by rw [size_list]; omega)] at hl
  exact List.mem_of_getElem? hl
/-- Behind a part that is not the last stands a slash. -/
theorem part_slash (s : ByteArray) (k : Nat) (hk : k + 1 < (partsOf s).length) (hi : offN s k + (partN s k).size < s.size) : s[offN s k + (partN s k).size] = 47 := by
  obtain ⟨pre, post, e1, e2, _, e4, _⟩ := stands s k (by omega)
  obtain ⟨post', rfl⟩ := e4 hk
  have hl : s.data.toList[offN s k + (partN s k).size]? = some 47 := by
    rw [e1, List.getElem?_append_right (by rw [List.length_append, size_list]; omega), List.length_append, size_list, e2, Nat.sub_self]
    rfl
  rw [List.getElem?_eq_getElem (by rw [size_list]; exact hi)] at hl
  simpa [ByteArray.getElem_eq_getElem_data] using hl
theorem part_cut (s : ByteArray) (k : Nat) (hk : k < (partsOf s).length) : s.extract (offN s k) (offN s k + (partN s k).size) = partN s k := by
  obtain ⟨pre, post, e1, e2, _⟩ := stands s k hk
  apply bytes_ext
  rw [Lib.extract_data, e1, ← e2, List.append_assoc, List.drop_left, ← size_list, show pre.length + (partN s k).data.toList.length - pre.length = (partN s k).data.toList.length by omega, List.take_left]
theorem parts_cut (s : ByteArray) (k : Nat) (hk : k + 1 < (partsOf s).length) : s.extract (offN s k) (offN s (k + 1) + (partN s (k + 1)).size) = partN s k ++ slash ++ partN s (k + 1) := by
  obtain ⟨pre, post, e1, e2, _, e4, _⟩ := stands s k (by omega)
  obtain ⟨post', rfl⟩ := e4 hk
  apply bytes_ext
  rw [offN_succ, Lib.extract_data, e1, ← e2, List.append_assoc, List.drop_left, ← size_list, ← size_list]
  have e : (partN s k ++ slash ++ partN s (k + 1)).data.toList = (partN s k).data.toList ++ 47 :: (partN s (k + 1)).data.toList := by simp [slash]
  rw [e, ← List.cons_append, ← List.append_assoc, List.take_left']
  simp only [List.length_append, List.length_cons]
  omega
end Go.Proofs.YtbopkepjbifhhaaGreatDoor
