/- The digits of bytes are read as they: plain. -/
import Derived.Test.YtbopkepjbifhhaaGreatDoorParse
import Derived.Test.YtbopkepjbifhhaaGreatDoorSum
namespace Go.Proofs.YtbopkepjbifhhaaGreatDoor

theorem nib_hex (x : Int) (h0 : 0 ≤ x) (h1 : x < 16) : nib (hexD x) = x := by
  have h : x = 0 ∨ x = 1 ∨ x = 2 ∨ x = 3 ∨ x = 4 ∨ x = 5 ∨ x = 6 ∨ x = 7 ∨ x = 8 ∨ x = 9 ∨ x = 10 ∨ x = 11 ∨ x = 12 ∨ x = 13 ∨ x = 14 ∨ x = 15 := by omega
  rcases h with rfl | rfl | rfl | rfl | rfl | rfl | rfl | rfl | rfl | rfl | rfl | rfl | rfl | rfl | rfl | rfl <;> decide +kernel
theorem textL_get (f : Nat → Int) : ∀ (n k : Nat), k < n → (textL f n).getD (2 * k) 0 = hexD (f k / 16) ∧ (textL f n).getD (2 * k + 1) 0 = hexD (f k % 16)
  | 0, _, h => absurd h (by omega)
  | n + 1, k, h => by
    rw [textL_succ]
    by_cases e : k = n
    · subst e
      simp only [List.getD_eq_getElem?_getD]
      rw [List.getElem?_append_right (by rw [textL_length]; omega), List.getElem?_append_right (by rw [textL_length]; omega), textL_length]
      simp
    · have ih := textL_get f n k (by omega)
      simp only [List.getD_eq_getElem?_getD] at ih ⊢
      rw [List.getElem?_append_left (by rw [textL_length]; omega), List.getElem?_append_left (by rw [textL_length]; omega)]
      exact ih
theorem textL_congr {f g : Nat → Int} : ∀ (n : Nat), (∀ i, i < n → f i = g i) → textL f n = textL g n
  | 0, _ => rfl
  | n + 1, h => by rw [textL_succ, textL_succ, textL_congr n (fun i hi => h i (by omega)), h n (by omega)]
theorem textS_size (f : Nat → Int) : (textS f).size = 64 := by
  show (textL f 32).toArray.size = 64
  rw [List.size_toArray, textL_length]
theorem parse_text (f : Nat → Int) (hf : ∀ i, i < 32 → 0 ≤ f i ∧ f i < 256) (i : Nat) (hi : i < 32) : parseV (textS f) i = f i := by
  obtain ⟨h0, h1⟩ := hf i hi
  obtain ⟨g0, g1⟩ := textL_get f 32 i hi
  have e : (textS f).data.toList = textL f 32 := rfl
  rw [parseV, textS_size, partP, if_pos (by omega), e, g0, g1, nib_hex _ (by omega) (by omega), nib_hex _ (by omega) (by omega)]
  omega
theorem shaOk_text (f : Nat → Int) (hf : ∀ i, i < 32 → 0 ≤ f i ∧ f i < 256) : shaOk (textS f) = true := by
  have : textS (parseV (textS f)) = textS f := congrArg (fun l : List UInt8 => (⟨l.toArray⟩ : ByteArray)) (textL_congr 32 (fun i hi => parse_text f hf i hi))
  rw [shaOk, this]
  simp
theorem shaF_range (b : Nat → Int) (n i : Nat) : 0 ≤ shaF b n i ∧ shaF b n i < 256 := by
  unfold shaF endF outF
  split <;> exact ⟨Int.emod_nonneg _ (by decide), Int.emod_lt_of_pos _ (by decide)⟩
end Go.Proofs.YtbopkepjbifhhaaGreatDoor
