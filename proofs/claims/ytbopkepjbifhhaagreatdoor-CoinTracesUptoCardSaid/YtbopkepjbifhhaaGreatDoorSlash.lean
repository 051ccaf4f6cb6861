/- A text cut at its slashes: plain laws. -/
import Derived.Test.YtbopkepjbifhhaaGreatDoorFull
import Derived.Lib.SplitLaws
namespace Go.Proofs.YtbopkepjbifhhaaGreatDoor

theorem index_skip : ∀ (x r : List UInt8), (47 : UInt8) ∉ x → Lib.index (x ++ 47 :: r) [47] = (x.length : Int)
  | [], r, _ => by simp [Lib.index, List.isPrefixOf]
  | y :: x, r, h => by
    have hy : ((47 : UInt8) == y) = false := by
      have : (47 : UInt8) ≠ y := fun e => h (by simp [e])
      simpa using this
    have ih := index_skip x r (fun e => h (List.mem_cons_of_mem _ e))
    rw [List.cons_append, Lib.index]
    simp [List.isPrefixOf, hy, ih]
theorem index_no47 : ∀ (x : List UInt8), (47 : UInt8) ∉ x → Lib.index x [47] = -1
  | [], _ => by simp [Lib.index]
  | y :: x, h => by
    have hy : ((47 : UInt8) == y) = false := by
      have : (47 : UInt8) ≠ y := fun e => h (by simp [e])
      simpa using this
    have ih := index_no47 x (fun e => h (List.mem_cons_of_mem _ e))
    rw [Lib.index]
    simp [List.isPrefixOf, hy, ih]
theorem splitK_skip (x r : List UInt8) (h : (47 : UInt8) ∉ x) (k : Nat) : Lib.splitK [47] 0 (k + 1) (x ++ 47 :: r) = x :: Lib.splitK [47] 0 k r := by
  have hi := index_skip x r h
  rw [Lib.splitK, hi, if_neg (by simp)]
  simp
theorem split_skip (x r : List UInt8) (h : (47 : UInt8) ∉ x) : Lib.split (x ++ 47 :: r) [47] = x :: Lib.split r [47] := by
  have hc : Lib.count (x ++ 47 :: r) [47] = Lib.count r [47] + 1 := by
    rw [Lib.count_one, Lib.count_one, List.count_append, List.count_cons_self, List.count_eq_zero.2 h]
    omega
  rw [Lib.split, hc, splitK_skip x r h]
  rfl
theorem split_one47 (x : List UInt8) (h : (47 : UInt8) ∉ x) : Lib.split x [47] = [x] := by
  rw [Lib.split, Lib.count_one, List.count_eq_zero.2 h]
  rfl

/-- A text's parts between its slashes. -/
def partsOf (s : ByteArray) : List ByteArray := Lib.splitB slash 0 (Lib.countB s slash) s
theorem bytes_ext {a b : ByteArray} (h : a.data.toList = b.data.toList) : a = b := by
  cases a; cases b; simp at h; rw [h]
theorem partsOf_data (s : ByteArray) : (partsOf s).map (·.data.toList) = Lib.split s.data.toList [47] := Lib.splitB_data slash 0 _ s
theorem parts_ext {l m : List ByteArray} (h : l.map (·.data.toList) = m.map (·.data.toList)) : l = m := by
  induction l generalizing m with
  | nil => cases m <;> simp_all
  | cons a l ih =>
    cases m with
    | nil => simp at h
    | cons b m =>
      simp only [List.map_cons, List.cons.injEq] at h
      rw [bytes_ext h.1, ih h.2]

theorem partB_no {x : ByteArray} (h : partB x = true) : (47 : UInt8) ∉ x.data.toList := by
  simp only [partB, Bool.and_eq_true] at h
  intro hm
  have := List.all_eq_true.1 h.2 _ hm
  exact absurd this (by decide)
theorem baseB_no {x : ByteArray} (h : baseB x = true) : (47 : UInt8) ∉ x.data.toList := by
  simp only [baseB, Bool.and_eq_true] at h
  intro hm
  have := List.all_eq_true.1 h.2 _ hm
  exact absurd this (by decide)
theorem toList_data (s : ByteArray) : s.toList = s.data.toList := by
  exact ByteArray.toList_eq s
theorem endB_parts {e : ByteArray} (h : endB e = true) : e = cutA e ++ slash ++ cutB e ∧ partB (cutA e) = true ∧ partB (cutB e) = true := by
  simp only [endB, Bool.and_eq_true, Bool.not_eq_true', beq_iff_eq] at h
  obtain ⟨h0, h1⟩ := h
  have h2 : portS (cutA e) (cutB e) = e := bytes_ext (by rw [← toList_data, ← toList_data]; exact h1)
  unfold portS at h2
  split at h2
  · rename_i hp
    simp only [Bool.and_eq_true] at hp
    exact ⟨h2.symm, hp.1, hp.2⟩
  · rw [← h2, toList_data] at h0
    exact absurd h0 (by simp)
theorem endB_list {e : ByteArray} (h : endB e = true) : e.data.toList = (cutA e).data.toList ++ 47 :: (cutB e).data.toList := by
  obtain ⟨h1, _, _⟩ := endB_parts h
  conv => lhs; rw [h1]
  simp [slash]

theorem join_step (e : ByteArray) (p : List ByteArray) (b : ByteArray) : (joinS (e :: p) b).data.toList = e.data.toList ++ 47 :: (joinS p b).data.toList := by
  unfold joinS
  cases p with
  | nil => simp [Lib.join, List.intercalate]
  | cons f p => simp [Lib.join, List.intercalate]
theorem join_base (b : ByteArray) : joinS [] b = b := by
  apply bytes_ext
  simp [joinS, Lib.join, List.intercalate]

theorem split_join (b : ByteArray) (hb : baseB b = true) : ∀ (p : List ByteArray), p.any (fun s => !endB s) = false → Lib.split (joinS p b).data.toList [47] = (p.map fun e => [(cutA e).data.toList, (cutB e).data.toList]).flatten ++ [b.data.toList]
  | [], _ => by rw [join_base]; exact split_one47 _ (baseB_no hb)
  | e :: p, h => by
    simp only [List.any_cons, Bool.or_eq_false_iff, Bool.not_eq_false'] at h
    obtain ⟨he, hp⟩ := h
    obtain ⟨_, ha, hc⟩ := endB_parts he
    rw [join_step, endB_list he, List.append_assoc, List.cons_append, split_skip _ _ (partB_no ha), split_skip _ _ (partB_no hc), split_join b hb p hp]
    simp
theorem parts_join (p : List ByteArray) (b : ByteArray) (hp : p.any (fun s => !endB s) = false) (hb : baseB b = true) : partsOf (joinS p b) = (p.map fun e => [cutA e, cutB e]).flatten ++ [b] := by
  apply parts_ext
  rw [partsOf_data, split_join b hb p hp]
  simp [List.map_flatten, Function.comp_def]

/-- The ends that the first parts make, two by two. -/
def pathF (l : List ByteArray) (k : Nat) : List ByteArray := (List.range k).map fun j => l.getD (2 * j) ⟨#[]⟩ ++ slash ++ l.getD (2 * j + 1) ⟨#[]⟩
theorem pathF_length (l : List ByteArray) (k : Nat) : (pathF l k).length = k := by simp [pathF]
theorem pathF_succ (l : List ByteArray) (k : Nat) : pathF l (k + 1) = pathF l k ++ [l.getD (2 * k) ⟨#[]⟩ ++ slash ++ l.getD (2 * k + 1) ⟨#[]⟩] := by simp [pathF, List.range_succ]
theorem pathF_cons (a c : ByteArray) (l : List ByteArray) (k : Nat) : pathF (a :: c :: l) (k + 1) = (a ++ slash ++ c) :: pathF l k := by
  simp only [pathF, List.range_succ_eq_map, List.map_cons, List.map_map]
  congr 1
theorem pathF_join (b : ByteArray) : ∀ (p : List ByteArray), p.any (fun s => !endB s) = false → pathF ((p.map fun e => [cutA e, cutB e]).flatten ++ [b]) p.length = p
  | [], _ => rfl
  | e :: p, h => by
    simp only [List.any_cons, Bool.or_eq_false_iff, Bool.not_eq_false'] at h
    obtain ⟨he, hp⟩ := h
    have ih := pathF_join b p hp
    simp only [List.map_cons, List.flatten_cons, List.cons_append, List.nil_append, List.length_cons]
    rw [pathF_cons, ih, ← (endB_parts he).1]

/-- The trace of a text: its path, its base, and the error's number. -/
def parseF (s : ByteArray) : (List ByteArray × ByteArray) × Int :=
  let l := partsOf s
  let p := pathF l ((l.length - 1) / 2)
  let b := l.getD (l.length - 1) ⟨#[]⟩
  if (fullS p b).2 = 0 ∧ (fullS p b).1 = s then ((p, b), 0) else (([], ⟨#[]⟩), 40)
theorem flatten_two (p : List ByteArray) : ((p.map fun e => [cutA e, cutB e]).flatten).length = 2 * p.length := by
  induction p with
  | nil => rfl
  | cons e p ih => simp only [List.map_cons, List.flatten_cons, List.length_append, ih, List.length_cons, List.length_nil]; omega
theorem fullS_ok {p : List ByteArray} {b : ByteArray} (h : (fullS p b).2 = 0) : p.length ≤ 8 ∧ p.any (fun s => !endB s) = false ∧ baseB b = true ∧ (fullS p b).1 = joinS p b := by
  unfold fullS at h ⊢
  split at h
  · simp at h
  · split at h
    · simp at h
    · rename_i h8 h9
      simp only [Bool.or_eq_true, Bool.not_eq_true', not_or, Bool.not_eq_true, Bool.not_eq_false] at h9
      exact ⟨by omega, h9.1, h9.2, by rw [if_neg h8, if_neg (by simp [h9.1, h9.2])]⟩
theorem parse_join {p : List ByteArray} {b : ByteArray} (h : (fullS p b).2 = 0) : parseF (fullS p b).1 = ((p, b), 0) := by
  obtain ⟨h8, hp, hb, hj⟩ := fullS_ok h
  have hl : partsOf (fullS p b).1 = (p.map fun e => [cutA e, cutB e]).flatten ++ [b] := by rw [hj, parts_join p b hp hb]
  have hn : (partsOf (fullS p b).1).length = 2 * p.length + 1 := by rw [hl, List.length_append, flatten_two]; rfl
  have hpath : pathF (partsOf (fullS p b).1) (((partsOf (fullS p b).1).length - 1) / 2) = p := by
    rw [hn, show (2 * p.length + 1 - 1) / 2 = p.length by omega, hl]
    exact pathF_join b p hp
  have hbase : (partsOf (fullS p b).1).getD ((partsOf (fullS p b).1).length - 1) ⟨#[]⟩ = b := by
    rw [hn, hl, List.getD_eq_getElem?_getD, List.getElem?_append_right (by rw [flatten_two]; omega), flatten_two]
    simp
  unfold parseF
  simp only [hpath, hbase, h, and_self, if_true]
end Go.Proofs.YtbopkepjbifhhaaGreatDoor
