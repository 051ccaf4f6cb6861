/- What Encode lays is read as it: plain laws. -/
import Derived.Test.YteajgnoimbdkbaaGreatDoorDecode
namespace Go.Proofs.YteajgnoimbdkbaaGreatDoor
open Go.RowKit

theorem size_list (s : ByteArray) : s.data.toList.length = s.size := by rw [Array.length_toList, ByteArray.size_data]
theorem restOf_size (s : ByteArray) (h : isIbc s = true) : s.size = 4 + (restOf s).size := by
  unfold isIbc at h
  have hl : 4 ≤ s.data.toList.length := by
    unfold Lib.hasPrefix at h
    have := (List.isPrefixOf_iff_prefix.1 h).length_le
    exact this
  have e : (restOf s).size = (s.data.toList.drop 4).length := by
    unfold restOf Lib.trimPrefix
    rw [if_pos h]
    show (s.data.toList.drop 4).toArray.size = _
    rw [List.size_toArray]
  have hs := size_list s
  rw [e, List.length_drop]
  omega
theorem toList_eq {a b : ByteArray} (h : a.toList = b.toList) : a.size = b.size := by
  rw [Lib.toList_data, Lib.toList_data] at h
  rw [← size_list, ← size_list, h]
theorem checkF_len {s : ByteArray} (h : checkF s = 0) : s.size ≤ 256 := by
  unfold checkF at h
  split at h
  · rename_i hc
    simp only [Bool.or_eq_true, Bool.and_eq_true] at hc
    rcases hc with hb | ⟨hi, hs⟩
    · simp only [baseB, Bool.and_eq_true, decide_eq_true_eq] at hb
      omega
    · have h1 := restOf_size s hi
      have h2 := toList_eq (by simpa [shaOk] using hs : (textS (parseV (restOf s))).toList = (restOf s).toList)
      have h3 : (textS (parseV (restOf s))).size = 64 := by
        show (textL (parseV (restOf s)) 32).toArray.size = 64
        rw [List.size_toArray, textL_length]
      omega
  · simp at h
theorem shape_le (k : Int) : (shapeF k).1 ≤ 5 ∧ (shapeF k).2.1 ≤ 5 ∧ (shapeF k).2.2 ≤ 5 := by
  unfold shapeF
  split
  · rename_i h
    have key : ∀ j : Fin 19, (shapeL.getD j.val (0, 0, 0)).1 ≤ 5 ∧ (shapeL.getD j.val (0, 0, 0)).2.1 ≤ 5 ∧ (shapeL.getD j.val (0, 0, 0)).2.2 ≤ 5 := by decide
    exact key ⟨k.toNat, by omega⟩
  · exact ⟨by decide, by decide, by decide⟩
theorem longB_le {n : Nat} {l : List (List UInt8)} (h : longB n l = false) : ∀ t ∈ l, t.length ≤ n := by
  intro t ht
  rw [longB, List.any_eq_false] at h
  have := h t ht
  simp at this
  omega
theorem msgOk_of {m : MsgD} (h : msgN m = 0) (hi : IntOk m.kind ∧ ∀ n ∈ m.ints, IntOk n) : MsgOk m := by
  unfold msgN at h
  split at h
  · rename_i hf
    split at h
    · simp at h
    · rename_i hl
      simp only [Bool.or_eq_true, not_or, Bool.not_eq_true] at hl
      simp only [fitB, Bool.and_eq_true, decide_eq_true_eq] at hf
      have hs := shape_le m.kind
      exact ⟨hi.1, by omega, by omega, by omega, longB_le hl.1, hi.2, longB_le hl.2⟩
  · simp at h
theorem msgsN_zero : ∀ {l : List MsgD}, msgsN l = 0 → ∀ m ∈ l, msgN m = 0
  | [], _, m, hm => by simp at hm
  | a :: l, h, m, hm => by
    by_cases ha : msgN a = 0
    · rw [msgsN, if_neg (by simp [ha])] at h
      rcases List.mem_cons.1 hm with rfl | hm
      · exact ha
      · exact msgsN_zero h m hm
    · rw [msgsN, if_pos ha] at h
      exact absurd h ha
/-- A transaction that may be is read as it was. -/
theorem dec_enc {x : TxD} (h : txN x = 0) (hi : TxInts x) (hl : (encL x).length ≤ 65536) : decF (encL x) = (x, 0) := by
  have h0 := h
  unfold txN at h
  split at h
  · simp at h
  rename_i hn
  split at h
  · simp at h
  split at h
  · rename_i hc
    exact absurd h hc
  rename_i hc
  split at h
  · simp at h
  split at h
  · simp at h
  rename_i hm
  split at h
  · rename_i hms
    exact absurd h hms
  rename_i hms
  split at h
  · simp at h
  rename_i hs
  have hname : x.account.length ≤ 20 := by
    simp only [nameB, Bool.not_eq_false, Bool.and_eq_true, decide_eq_true_eq] at hn
    have := hn.1.1.2
    rw [strOf_size] at this
    exact this
  have hden : x.denom.length ≤ 256 := by
    have := checkF_len (s := strOf x.denom) (by simpa using hc)
    rwa [strOf_size] at this
  have hb := rdTx_back (x := x) (by omega) hi.1 hden hi.2.1 (by omega) (fun m hmm => msgOk_of (msgsN_zero (by simpa using hms) m hmm) (hi.2.2 m hmm)) (by omega)
  unfold decF
  rw [hb]
  simp only [doneN, h0]
  rw [if_neg]
  simp
  omega
end Go.Proofs.YteajgnoimbdkbaaGreatDoor
