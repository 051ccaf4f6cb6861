/- The document's Base and Full: they are what the program's are. -/
import Derived.Test.YtbopkepjbifhhaaGreatDoorRef2
namespace Go.Proofs.YtbopkepjbifhhaaGreatDoor
open Go.RowKit

/-- All bytes up to j are letters or digits, the first one a letter. -/
def goodTo (s : ByteArray) (j : Nat) : Prop := allTo setD s j ∧ (∀ h : 0 < s.size, 0 < j → inSet setL s[0] = true)
theorem goodTo_succ {s : ByteArray} {j : Nat} {hj : j < s.size} (h : goodTo s j) (h1 : inSet setD s[j] = true) (h2 : j = 0 → inSet setL s[j] = true) : goodTo s (j + 1) := by
  refine ⟨allTo_succ h.1 h1, fun h0 _ => ?_⟩
  rcases Nat.eq_zero_or_pos j with rfl | hp
  · exact h2 rfl
  · exact h.2 h0 hp
theorem first_in (s : ByteArray) (h : 0 < s.size) : allIn setL (s.extract 0 1) = inSet setL s[0] := by
  have hz : (s.extract 0 1).size = 1 := by simp; omega
  have e : (s.extract 0 1)[0]'(by omega) = s[0] := by simp [ByteArray.getElem_eq_getElem_data]
  rw [Bool.eq_iff_iff, allIn_iff]
  constructor
  · intro h1
    rw [← e]
    exact h1 0 (by omega)
  · intro h1 j hj
    obtain rfl : j = 0 := by omega
    rw [e]
    exact h1
theorem baseB_good {s : ByteArray} (h : goodTo s s.size) : baseB s = (decide (3 ≤ s.size) && decide (s.size ≤ 16)) := by
  rw [baseB, allIn_true h.1, Bool.and_true]
  by_cases h0 : 0 < s.size
  · rw [first_in s h0, h.2 h0 h0, Bool.and_true]
  · rw [decide_eq_false (by omega : ¬ 3 ≤ s.size)]
    rfl
theorem baseB_bad {s : ByteArray} {j : Nat} {hj : j < s.size} (h1 : smallB s[j] = false) (h2 : j = 0 ∨ digitB s[j] = false) : baseB s = false := by
  rcases h2 with rfl | h2
  · rw [baseB, first_in s hj, setL_is, h1, Bool.and_false]
    rfl
  · rw [baseB, allIn_false (k := j) (hk := hj) (by rw [setD_is, h1, h2]; rfl), Bool.and_false]

set_option maxHeartbeats 1000000 in
theorem refBase_any (s : ByteArray) (w : World) (hs : s.size ≤ 9223372036854775807) : Calls Tryz.prog 14 #[.string s] w fun e w' => e = .returned (.bool (baseB s)) ∧ w' = w := by
  go_enter Tryz.func14, Tryz.ntmps14
  go_wp2
  go_loopg [3] s.size (fun k v wr => ∃ j : Nat, j + k = s.size ∧ v = .int .i64 j ∧ wr = w ∧ goodTo s j)
  case atStart => exact ⟨0, by omega, rfl, rfl, fun i hi => absurd hi (by omega), fun _ h => absurd h (by omega)⟩
  case round =>
    obtain ⟨j, hj, rfl, rfl, hall⟩ := hrel
    have HA := Lib.hid hall
    clear hall
    by_cases hlt : j < s.size
    · have hi := setD_is s[j]
      have hl := setL_is s[j]
      have c1 := small_any s[j] wr
      have c2 := digit_any s[j] wr
      have ht : inSet setD s[j] = true → (j = 0 → inSet setL s[j] = true) → goodTo s (j + 1) := fun h h' => goodTo_succ HA.out h h'
      have hf : smallB s[j] = false → (j = 0 ∨ digitB s[j] = false) → baseB s = false := fun h h' => baseB_bad h h'
      have HI := Lib.hid hi
      have HL := Lib.hid hl
      have HT := Lib.hid ht
      have HF := Lib.hid hf
      clear hi hl ht hf
      cases h1 : smallB s[j]
      · rw [h1] at c1
        by_cases h0 : 0 < j
        · cases h2 : digitB s[j]
          · rw [h2] at c2
            have hf : baseB s = false := HF.out h1 (.inr h2)
            have HF2 := Lib.hid hf
            clear h1 h2 hf
            go_wp2_with fail
            refine c1.mono ?_
            rintro e w1 ⟨rfl, rfl⟩
            go_wp2_with fail
            refine c2.mono ?_
            rintro e w2 ⟨rfl, rfl⟩
            go_wp2
            go_ret
            exact ⟨ret_bool HF2.out.symm, rfl⟩
          · rw [h2] at c2
            have ht : goodTo s (j + 1) := HT.out (by rw [HI.out, h1, h2]; rfl) (fun h => absurd h (by omega))
            have HT2 := Lib.hid ht
            clear h1 h2 ht
            go_wp2_with fail
            refine c1.mono ?_
            rintro e w1 ⟨rfl, rfl⟩
            go_wp2_with fail
            refine c2.mono ?_
            rintro e w2 ⟨rfl, rfl⟩
            go_wp2
            go_roundg (s.size - (j + 1))
            case measure => omega
            case rel => exact ⟨j + 1, by omega, by go_num, rfl, HT2.out⟩
        · have hf : baseB s = false := HF.out h1 (.inl (by omega))
          have HF2 := Lib.hid hf
          clear h1 hf
          go_wp2_with fail
          refine c1.mono ?_
          rintro e w1 ⟨rfl, rfl⟩
          go_wp2
          go_ret
          exact ⟨ret_bool HF2.out.symm, rfl⟩
      · rw [h1] at c1
        have ht : goodTo s (j + 1) := HT.out (by rw [HI.out, h1]; rfl) (fun _ => by rw [HL.out, h1])
        have HT2 := Lib.hid ht
        clear h1 ht
        go_wp2_with fail
        refine c1.mono ?_
        rintro e w1 ⟨rfl, rfl⟩
        go_wp2
        go_roundg (s.size - (j + 1))
        case measure => omega
        case rel => exact ⟨j + 1, by omega, by go_num, rfl, HT2.out⟩
    · have hje : j = s.size := by omega
      subst hje
      have HP := Lib.hid (baseB_good HA.out)
      by_cases h0 : 2 < s.size
      · go_wp2
        go_ret
        exact ⟨ret_bool (by rw [HP.out, decide_eq_true (by omega : 3 ≤ s.size), Bool.true_and]; exact decide_eq_decide.2 (by omega)), rfl⟩
      · go_wp2
        go_ret
        exact ⟨ret_bool (by rw [HP.out, decide_eq_false (by omega : ¬ 3 ≤ s.size), Bool.false_and]), rfl⟩

/-- The text that the document's loop has made of the first j ends: each with a '/' behind it. -/
def headS : List ByteArray → ByteArray
  | [] => ⟨#[]⟩
  | x :: r => x ++ ⟨#[47]⟩ ++ headS r
theorem ba_append_assoc (a b c : ByteArray) : a ++ b ++ c = a ++ (b ++ c) := by
  apply ByteArray.ext
  simp [ByteArray.data_append]
theorem ba_append_nil (a : ByteArray) : a ++ (⟨#[]⟩ : ByteArray) = a := by
  apply ByteArray.ext
  simp [ByteArray.data_append]
theorem ba_nil_append (a : ByteArray) : (⟨#[]⟩ : ByteArray) ++ a = a := by
  apply ByteArray.ext
  simp [ByteArray.data_append]
theorem headS_snoc (l : List ByteArray) (x : ByteArray) : headS (l ++ [x]) = headS l ++ x ++ ⟨#[47]⟩ := by
  induction l with
  | nil => simp only [List.nil_append, headS]; rw [ba_append_nil, ba_nil_append]
  | cons y l ih => simp only [List.cons_append, headS, ih, ba_append_assoc]
theorem headS_size (l : List ByteArray) (h : ∀ s ∈ l, s.size ≤ 41) : (headS l).size ≤ l.length * 42 := by
  induction l with
  | nil => exact Nat.le_refl _
  | cons x l ih =>
    have h1 := h x (List.mem_cons_self ..)
    have h2 := ih fun y hy => h y (List.mem_cons_of_mem _ hy)
    simp only [headS, ByteArray.size_append, List.length_cons]
    have : (ByteArray.mk #[47]).size = 1 := rfl
    omega
theorem join_headS (l : List ByteArray) (b : ByteArray) : joinS l b = headS l ++ b := by
  unfold joinS
  induction l with
  | nil =>
    apply ByteArray.ext
    simp [headS, Lib.join_one, ba_nil_append]
  | cons x l ih =>
    have e : Lib.join (((x :: l) ++ [b]).map (·.data.toList)) [47] = x.data.toList ++ [47] ++ Lib.join ((l ++ [b]).map (·.data.toList)) [47] := by
      cases h : (l ++ [b]) with
      | nil => simp at h
      | cons y r =>
        rw [List.cons_append, h, List.map_cons, Lib.join_cons, List.map_cons, Lib.join_cons]
        simp [Lib.joinTail]
    rw [e]
    have ih' := congrArg (fun z : ByteArray => z.data.toList) ih
    simp only [headS]
    apply ByteArray.ext
    apply Array.ext'
    simp only [ByteArray.data_append, Array.toList_append] at ih' ⊢
    rw [ih']
    simp
end Go.Proofs.YtbopkepjbifhhaaGreatDoor
