/- How long a transaction's bytes are: plain laws; a number and it with its lowest bit turned. -/
import Derived.Test.YteajgnoimbdkbaaDoorTxBackLaw
namespace Go.Proofs.YteajgnoimbdkbaaDoor
open Go.RowKit

theorem listW_cons (t : List UInt8) (l : List (List UInt8)) : listW (t :: l) = (t.length + 1) + listW l := by simp [listW]
theorem listW_mem {l : List (List UInt8)} : ∀ {t}, t ∈ l → t.length + 1 ≤ listW l := by
  induction l with
  | nil => intro t h; simp at h
  | cons a l ih =>
    intro t h
    rw [listW_cons]
    rcases List.mem_cons.1 h with rfl | h
    · omega
    · have := ih h; omega
theorem listW_count : ∀ l : List (List UInt8), l.length ≤ listW l
  | [] => Nat.zero_le _
  | t :: l => by have := listW_count l; rw [listW_cons, List.length_cons]; omega
theorem flat_bytes : ∀ l : List (List UInt8), listW l ≤ 4294967296 → (l.flatMap bytesL).length ≤ 10 * listW l
  | [], _ => by simp
  | t :: l, h => by
    rw [listW_cons] at h ⊢
    have h1 := flat_bytes l (by omega)
    have h2 := bytesL_len (b := t) (by omega)
    simp only [List.flatMap_cons, List.length_append]
    omega
theorem flat_ints : ∀ l : List Int, (∀ n ∈ l, IntOk n) → (l.flatMap intL).length ≤ 10 * l.length
  | [], _ => by simp
  | t :: l, h => by
    have h1 := flat_ints l (fun n hn => h n (List.mem_cons_of_mem _ hn))
    have h2 := h t (List.mem_cons_self ..)
    have h3 := intL_len h2.1 h2.2
    simp only [List.flatMap_cons, List.length_append, List.length_cons]
    omega
theorem msgL_len {m : MsgD} (hw : msgW m ≤ 4294967296) (hi : IntOk m.kind ∧ ∀ n ∈ m.ints, IntOk n) : (msgL m).length ≤ 40 * msgW m := by
  unfold msgW at *
  have h1 := flat_bytes m.texts (by omega)
  have h2 := flat_ints m.ints hi.2
  have h3 := flat_bytes m.data (by omega)
  have h4 := intL_len hi.1.1 hi.1.2
  have c1 := listW_count m.texts
  have c3 := listW_count m.data
  have h5 := uintL_len (n := m.texts.length) (by omega)
  have h6 := uintL_len (n := m.ints.length) (by omega)
  have h7 := uintL_len (n := m.data.length) (by omega)
  simp only [msgL, List.length_append]
  omega
theorem msgs_len : ∀ l : List MsgD, (l.map msgW).sum ≤ 4294967296 → (∀ m ∈ l, IntOk m.kind ∧ ∀ n ∈ m.ints, IntOk n) → (l.flatMap msgL).length ≤ 40 * (l.map msgW).sum ∧ l.length ≤ (l.map msgW).sum
  | [], _, _ => by simp
  | m :: l, h, hi => by
    simp only [List.map_cons, List.sum_cons] at h ⊢
    obtain ⟨h1, h2⟩ := msgs_len l (by omega) (fun n hn => hi n (List.mem_cons_of_mem _ hn))
    have h3 := msgL_len (m := m) (by omega) (hi m (List.mem_cons_self ..))
    have h4 : 1 ≤ msgW m := by unfold msgW; omega
    simp only [List.flatMap_cons, List.length_append, List.length_cons]
    omega
theorem putL_len {x : TxD} (hw : txW x ≤ 4294967296) (hi : TxInts x) : (putL x).length ≤ 50 + 40 * txW x := by
  unfold txW at *
  obtain ⟨h1, h2⟩ := msgs_len x.msgs (by omega) hi.2.2
  have h3 := bytesL_len (b := x.account) (by omega)
  have h4 := intL_len hi.1.1 hi.1.2
  have h5 := bytesL_len (b := x.denom) (by omega)
  have h6 := intL_len hi.2.1.1 hi.2.1.2
  have h7 := uintL_len (n := x.msgs.length) (by omega)
  simp only [putL, List.length_append]
  omega
theorem encL_len {x : TxD} (hw : txW x ≤ 4294967296) (hi : TxInts x) : (encL x).length ≤ 60 + 41 * txW x := by
  have h1 := putL_len hw hi
  have h2 : x.sign.length ≤ txW x := by unfold txW; omega
  have h3 := bytesL_len (b := x.sign) (by omega)
  simp only [encL, List.length_append]
  omega
theorem signedL_len {c : List UInt8} {x : TxD} (hw : txW x ≤ 4294967296) (hc : c.length ≤ 4294967296) (hi : TxInts x) : (signedL c x).length ≤ 90 + c.length + 40 * txW x := by
  have h1 := putL_len hw hi
  have h2 := bytesL_len (b := c) (by omega)
  have h3 := bytesL_len (b := [116, 120]) (by decide)
  simp only [List.length_cons, List.length_nil] at h3
  simp only [signedL, List.length_append]
  omega
theorem small_of {x : TxD} (h : txW x ≤ 1048576) : TxSmall x := by
  unfold txW at h
  have key : ∀ l : List MsgD, l.length ≤ (l.map msgW).sum ∧ ∀ m ∈ l, msgW m ≤ (l.map msgW).sum := by
    intro l
    induction l with
    | nil => simp
    | cons a l ih =>
      simp only [List.map_cons, List.sum_cons, List.length_cons]
      refine ⟨by have : 1 ≤ msgW a := by unfold msgW; omega
                 omega, fun m hm => ?_⟩
      rcases List.mem_cons.1 hm with rfl | hm
      · omega
      · have := ih.2 m hm; omega
  obtain ⟨k1, k2⟩ := key x.msgs
  refine ⟨by omega, by omega, by omega, by omega, fun m hm => ?_⟩
  have hm2 := k2 m hm
  have e : msgW m = 1 + listW m.texts + m.ints.length + listW m.data := rfl
  have c1 := listW_count m.texts
  have c3 := listW_count m.data
  exact ⟨by omega, by omega, by omega, fun t ht => by have := listW_mem ht; omega, fun t ht => by have := listW_mem ht; omega⟩

/-- A number with its lowest bit turned is another, of the same kind. -/
theorem xor_one {n : Int} (h : IntOk n) : IntOk (bits .xor .i64 n 1) ∧ bits .xor .i64 n 1 ≠ n := by
  have e : bits .xor .i64 n 1 = IntKind.i64.wrap ((BitVec.ofInt 64 n ^^^ BitVec.ofInt 64 1).toNat : Int) := rfl
  have hlt := (BitVec.ofInt 64 n ^^^ BitVec.ofInt 64 1).isLt
  rw [e, wrap_i64_cases _ (by omega) (by omega)]
  obtain ⟨h0, h1⟩ := h
  refine ⟨?_, ?_⟩
  · unfold IntOk
    split <;> omega
  · intro he
    have h2 : BitVec.ofInt 64 n = BitVec.ofInt 64 n ^^^ BitVec.ofInt 64 1 := by
      apply BitVec.eq_of_toNat_eq
      rw [BitVec.toNat_ofInt]
      split at he <;> omega
    have h3 : BitVec.ofInt 64 1 = 0#64 := by
      have := congrArg (fun y => BitVec.ofInt 64 n ^^^ y) h2
      simp only [← BitVec.xor_assoc, BitVec.xor_self, BitVec.zero_xor] at this
      exact this.symm
    exact absurd h3 (by decide)
end Go.Proofs.YteajgnoimbdkbaaDoor
