/- The document's padding all at once makes what the program's two ends make: plain. -/
import Derived.Test.YtbopkepjbifhhaaGreatDoorSum
namespace Go.Proofs.YtbopkepjbifhhaaGreatDoor

theorem wordF_congr {b c : Nat → Int} (h : ∀ i, i < 64 → b i = c i) (t : Nat) (ht : t < 16) : wordF b t = wordF c t := by
  rw [wordF, wordF, h _ (by omega), h _ (by omega), h _ (by omega), h _ (by omega)]
theorem schedF_congr {b c : Nat → Int} (h : ∀ i, i < 64 → b i = c i) : ∀ (t : Nat), schedF b t = schedF c t := by
  intro t
  induction t using Nat.strongRecOn with
  | ind t ih =>
    by_cases ht : t < 16
    · rw [schedF, dif_pos ht, wordF_congr h t ht]
      conv => rhs; rw [schedF, dif_pos ht]
    · rw [schedF, dif_neg ht, ih (t - 16) (by omega), ih (t - 15) (by omega), ih (t - 7) (by omega), ih (t - 2) (by omega)]
      conv => rhs; rw [schedF, dif_neg ht]
theorem roundsF_congr {b c : Nat → Int} (h : ∀ i, i < 64 → b i = c i) (s : Nat → Int) : ∀ t, roundsF b s t = roundsF c s t
  | 0 => rfl
  | t + 1 => by rw [roundsF, roundsF, roundsF_congr h s t, schedF_congr h]
theorem mixF_congr {b c : Nat → Int} (h : ∀ i, i < 64 → b i = c i) (s : Nat → Int) : mixF b s = mixF c s := by
  funext i
  rw [mixF, mixF, roundsF_congr h]
theorem mixesF_congr {b c : Nat → Int} (s : Nat → Int) : ∀ (m : Nat), (∀ i, i < 64 * m → b i = c i) → mixesF b s m = mixesF c s m
  | 0, _ => rfl
  | m + 1, h => by
    rw [mixesF, mixesF, mixesF_congr s m (fun i hi => h i (by omega))]
    exact mixF_congr (fun i hi => h _ (by omega)) _
theorem mixesF_add (b : Nat → Int) (s : Nat → Int) (q : Nat) : ∀ m, mixesF b s (q + m) = mixesF (fun i => b (64 * q + i)) (mixesF b s q) m
  | 0 => rfl
  | m + 1 => by
    rw [← Nat.add_assoc, mixesF, mixesF_add b s q m, mixesF]
    refine mixF_congr (fun i _ => ?_) _
    rw [show 64 * (q + m) + i = 64 * q + (64 * m + i) by omega]
theorem tail_low (b : Nat → Int) (n i L : Nat) (h : i < n) (hL : n + 8 ≤ L) : tailF b n n L i = b i := by
  rw [tailF, if_neg (by omega), lastF, if_neg (by omega), if_pos h]
theorem tail_high (b : Nat → Int) (n i m : Nat) : tailF b n n (64 * (n / 64 + m)) (64 * (n / 64) + i) = tailF (fun i => b (64 * (n / 64) + i)) (n % 64) n (64 * m) i ∨ m = 0 := by
  by_cases hm : m = 0
  · exact .inr hm
  · refine .inl ?_
    unfold tailF lastF
    by_cases h1 : 64 * m - 8 ≤ i ∧ i < 64 * m
    · rw [if_pos h1, if_pos (by omega), show 64 * (n / 64 + m) - 1 - (64 * (n / 64) + i) = 64 * m - 1 - i by omega]
    · rw [if_neg h1, if_neg (by omega)]
      by_cases h2 : i = n % 64
      · rw [if_pos h2, if_pos (by omega)]
      · rw [if_neg h2, if_neg (by omega)]
        by_cases h3 : i < n % 64
        · rw [if_pos h3, if_pos (by omega)]
        · rw [if_neg h3, if_neg (by omega)]
theorem sum_plain (b : Nat → Int) (n L nb : Nat) (hL : L = 64 * nb) (hnb : nb = n / 64 + 1 + (if 55 < n % 64 then 1 else 0)) : outF (mixesF (tailF b n n L) startF nb) = shaF b n := by
  have key : ∀ m, 0 < m → n % 64 + 9 ≤ 64 * m → mixesF (tailF b n n (64 * (n / 64 + m))) startF (n / 64 + m) = mixesF (tailF (fun i => b (64 * (n / 64) + i)) (n % 64) n (64 * m)) (mixesF b startF (n / 64)) m := fun m hm h9 => by
    rw [mixesF_add]
    have e : mixesF (tailF b n n (64 * (n / 64 + m))) startF (n / 64) = mixesF b startF (n / 64) := mixesF_congr _ _ (fun i hi => tail_low b n i _ (by omega) (by omega))
    rw [e]
    exact mixesF_congr _ _ (fun i _ => (tail_high b n i m).resolve_right (by omega))
  subst hL hnb
  unfold shaF endF
  by_cases h : 55 < n % 64
  · rw [if_pos h, if_pos h, Nat.add_assoc, key 2 (by omega) (by omega)]
  · rw [if_neg h, if_neg h, Nat.add_zero, key 1 (by omega) (by omega)]
end Go.Proofs.YtbopkepjbifhhaaGreatDoor
