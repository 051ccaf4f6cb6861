/- The theorem of chapter 14 in plain words: what Into makes, From gives back; what Full writes, Parse reads; a denomination may be. -/
import Derived.Test.YtbopkepjbifhhaaDoorFrom
import Derived.Test.YtbopkepjbifhhaaDoorCheck
namespace Go.Proofs.YtbopkepjbifhhaaDoor

theorem back_into {p : List ByteArray} {b port ch : ByteArray} (h : (intoF p b port ch).2 = 0) : ∃ Q, intoF p b port ch = ((Q, b), 0) ∧ fromF Q port ch = (p, true) ∧ Q.length ≤ 8 := by
  unfold intoF at h ⊢
  split at h
  · simp at h
  · rename_i he
    split at h
    · rename_i hf
      obtain ⟨h8, _⟩ := fullS_ok hf
      refine ⟨portS port ch :: p, by rw [if_neg he, if_pos hf], ?_, h8⟩
      have hi : isFrom (portS port ch :: p) port ch = true := by
        unfold isFrom
        simp [he]
      rw [fromF, if_pos hi]
      rfl
    · rename_i hf
      exact absurd h hf
theorem full_err {p : List ByteArray} {b : ByteArray} (h : (fullS p b).2 ≠ 0) : (fullS p b).1 = ⟨#[]⟩ := by
  unfold fullS at h ⊢
  split
  · rfl
  · split
    · rfl
    · rename_i h1 h2
      rw [if_neg h1, if_neg h2] at h
      exact absurd rfl h
theorem full_size {p : List ByteArray} {b : ByteArray} (h : (fullS p b).2 = 0) : (fullS p b).1.size ≤ 378 := by
  obtain ⟨h8, ho, hb, hj⟩ := fullS_ok h
  rw [hj]
  have := full_len ho hb h8
  simpa [joinS, ByteArray.size] using this
theorem hexD_no (x : Int) (h0 : 0 ≤ x) (h1 : x < 16) : hexD x ≠ 47 := by
  have h : x = 0 ∨ x = 1 ∨ x = 2 ∨ x = 3 ∨ x = 4 ∨ x = 5 ∨ x = 6 ∨ x = 7 ∨ x = 8 ∨ x = 9 ∨ x = 10 ∨ x = 11 ∨ x = 12 ∨ x = 13 ∨ x = 14 ∨ x = 15 := by omega
  rcases h with rfl | rfl | rfl | rfl | rfl | rfl | rfl | rfl | rfl | rfl | rfl | rfl | rfl | rfl | rfl | rfl <;> decide +kernel
theorem textL_no (f : Nat → Int) (hf : ∀ i, 0 ≤ f i ∧ f i < 256) : ∀ n, (47 : UInt8) ∉ textL f n
  | 0 => by simp [textL]
  | n + 1 => by
    obtain ⟨h0, h1⟩ := hf n
    rw [textL_succ]
    simp only [List.mem_append, List.mem_cons, List.not_mem_nil, or_false, not_or]
    exact ⟨textL_no f hf n, fun e => hexD_no (f n / 16) (by omega) (by omega) e.symm, fun e => hexD_no (f n % 16) (by omega) (by omega) e.symm⟩
theorem ibc_data (f : Nat → Int) : (ibc ++ textS f).data.toList = [105, 98, 99, 47] ++ textL f 32 := by
  simp [ibc, textS]
theorem ibc_count (f : Nat → Int) (hf : ∀ i, 0 ≤ f i ∧ f i < 256) : (ibc ++ textS f).data.toList.count 47 = 1 := by
  rw [ibc_data, List.count_append, List.count_eq_zero.2 (textL_no f hf 32)]
  decide
theorem join_count (e : ByteArray) (p : List ByteArray) (b : ByteArray) (he : endB e = true) : 2 ≤ (joinS (e :: p) b).data.toList.count 47 := by
  rw [join_step, endB_list he, List.count_append, List.count_append, List.count_cons_self, List.count_cons_self]
  omega
theorem check_ibc (f : Nat → Int) (hf : ∀ i, 0 ≤ f i ∧ f i < 256) : checkF (ibc ++ textS f) = 0 := by
  have h1 : isIbc (ibc ++ textS f) = true := by
    rw [isIbc, ibc_data]
    simp [Lib.hasPrefix, ibc]
  have h2 : restOf (ibc ++ textS f) = textS f := by
    apply bytes_ext
    have h1' := h1
    unfold isIbc at h1'
    show (Lib.trimPrefix (ibc ++ textS f).data.toList ibc.data.toList) = textL f 32
    rw [Lib.trimPrefix, if_pos h1', ibc_data]
    rfl
  rw [checkF, h1, h2, shaOk_text f (fun i _ => hf i)]
  simp
theorem back_denom {p : List ByteArray} {b : ByteArray} (h : (fullS p b).2 = 0) : ∃ ds, denomF p b = (ds, 0) ∧ checkF ds = 0 ∧ ds.size ≤ 378 ∧ (ds.toList == (fullS p b).1.toList) = decide (p.length = 0) := by
  obtain ⟨h8, ho, hb, hj⟩ := fullS_ok h
  by_cases hp : p.length = 0
  · have hd : denomF p b = ((fullS p b).1, 0) := by rw [denomF, if_pos (.inr hp), ← h]
    refine ⟨_, hd, ?_, full_size h, by simp [hp]⟩
    obtain rfl : p = [] := List.eq_nil_of_length_eq_zero hp
    rw [hj, join_base, checkF, hb]
    simp
  · have hd : denomF p b = (ibc ++ textS (shaF (byteF (fullS p b).1) (fullS p b).1.size), 0) := by rw [denomF, if_neg (by simp [h]; exact fun e => hp (by simp [e]))]
    refine ⟨_, hd, check_ibc _ (fun i => shaF_range _ _ i), ?_, ?_⟩
    · rw [ByteArray.size_append, textS_size]
      decide
    · rw [decide_eq_false hp, beq_eq_false_iff_ne]
      intro e
      rw [toList_data, toList_data] at e
      have h1 := ibc_count (shaF (byteF (fullS p b).1) (fullS p b).1.size) (fun i => shaF_range _ _ i)
      rw [e, hj] at h1
      cases p with
      | nil => simp at hp
      | cons x p =>
        have hx : endB x = true := by simpa using (by simpa using ho : endB x = true ∧ _).1
        have := join_count x p b hx
        omega
end Go.Proofs.YtbopkepjbifhhaaDoor
