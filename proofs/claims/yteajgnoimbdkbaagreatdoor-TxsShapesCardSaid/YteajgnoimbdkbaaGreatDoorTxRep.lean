/- A transaction in memory: what its value reads as. -/
import Derived.Test.YteajgnoimbdkbaaGreatDoorReadLaw
import Derived.Test.YteajgnoimbdkbaaGreatDoorWriter
namespace Go.Proofs.YteajgnoimbdkbaaGreatDoor
open Go.RowKit

/-- Bytes as a text. -/
def strOf (l : List UInt8) : ByteArray := ⟨l.toArray⟩
theorem strOf_list (l : List UInt8) : (strOf l).data.toList = l := by simp [strOf]
theorem strOf_size (l : List UInt8) : (strOf l).size = l.length := by simp [strOf, ByteArray.size]
theorem strOf_inj {a b : List UInt8} (h : strOf a = strOf b) : a = b := by rw [← strOf_list a, h, strOf_list]
theorem strOf_of (s : ByteArray) : strOf s.data.toList = s := by cases s; simp [strOf]

/-- A slice of bytes that reads as this list. -/
def Bts (w : World) (v : Value) (b : List UInt8) : Prop := Row w v 1 b.length (cellsL b)
theorem Bts.keep {w w' : World} {v : Value} {b : List UInt8} (h : Bts w v b) (hb : Below w.heap.size w w') : Bts w' v b := Row.keep h hb
theorem Bts.nil_ (w : World) : Bts w (.slice none 0 0) [] := Row.nil_ w 1
def intsV (l : List Int) : List Value := l.map (Value.int .i64)
theorem intsV_one (l : List Int) : ∀ u ∈ intsV l, u.oneCell' = true := by
  intro u hu
  obtain ⟨i, _, rfl⟩ := List.mem_map.1 hu
  rfl
def Ints (w : World) (v : Value) (l : List Int) : Prop := Row w v 1 l.length (intsV l)
theorem Ints.keep {w w' : World} {v : Value} {l : List Int} (h : Ints w v l) (hb : Below w.heap.size w w') : Ints w' v l := Row.keep h hb
/-- A slice of slices of bytes. -/
def Datas (w : World) (v : Value) (l : List (List UInt8)) : Prop := ∃ vs, Row w v 1 l.length vs ∧ (∀ u ∈ vs, u.oneCell' = true) ∧ ∀ (j : Nat) (u : Value) (b : List UInt8), vs[j]? = some u → l[j]? = some b → Bts w u b
theorem Datas.keep {w w' : World} {v : Value} {l : List (List UInt8)} (h : Datas w v l) (hb : Below w.heap.size w w') : Datas w' v l := by
  obtain ⟨vs, h1, h0, h2⟩ := h
  exact ⟨vs, h1.keep hb, h0, fun j u b hu hb' => (h2 j u b hu hb').keep hb⟩

/-- A message's four cells. -/
structure MsgV where
  kind : Int
  texts : Value
  ints : Value
  data : Value
def msgCells (m : MsgV) : List Value := [.int .i64 m.kind, m.texts, m.ints, m.data]
def msgsCells (l : List MsgV) : List Value := l.flatMap msgCells
theorem msgsCells_length : ∀ l : List MsgV, (msgsCells l).length = l.length * 4
  | [] => rfl
  | m :: l => by
    have := msgsCells_length l
    simp only [msgsCells, List.flatMap_cons, List.length_append, List.length_cons, msgCells, List.length_nil] at this ⊢
    omega
theorem msgsCells_get : ∀ (l : List MsgV) (j : Nat) (m : MsgV), l[j]? = some m → (msgsCells l)[j * 4]? = some (.int .i64 m.kind) ∧ (msgsCells l)[j * 4 + 1]? = some m.texts ∧ (msgsCells l)[j * 4 + 2]? = some m.ints ∧ (msgsCells l)[j * 4 + 3]? = some m.data
  | [], j, m, h => by simp at h
  | a :: l, 0, m, h => by
    obtain rfl : a = m := by simpa using h
    simp [msgsCells, msgCells]
  | a :: l, j + 1, m, h => by
    have h' : l[j]? = some m := by simpa using h
    have ih := msgsCells_get l j m h'
    have e : msgsCells (a :: l) = msgCells a ++ msgsCells l := by simp [msgsCells]
    have hl : (msgCells a).length = 4 := rfl
    rw [e, show (j + 1) * 4 = 4 + j * 4 by omega]
    refine ⟨?_, ?_, ?_, ?_⟩
    · rw [List.getElem?_append_right (by omega), hl, show 4 + j * 4 - 4 = j * 4 by omega]; exact ih.1
    · rw [List.getElem?_append_right (by omega), hl, show 4 + j * 4 + 1 - 4 = j * 4 + 1 by omega]; exact ih.2.1
    · rw [List.getElem?_append_right (by omega), hl, show 4 + j * 4 + 2 - 4 = j * 4 + 2 by omega]; exact ih.2.2.1
    · rw [List.getElem?_append_right (by omega), hl, show 4 + j * 4 + 3 - 4 = j * 4 + 3 by omega]; exact ih.2.2.2
def MsgAt (w : World) (p : MsgV) (m : MsgD) : Prop := p.kind = m.kind ∧ Strs w p.texts (m.texts.map strOf) ∧ Ints w p.ints m.ints ∧ Datas w p.data m.data
theorem MsgAt.keep {w w' : World} {p : MsgV} {m : MsgD} (h : MsgAt w p m) (hb : Below w.heap.size w w') : MsgAt w' p m := ⟨h.1, h.2.1.keep hb, h.2.2.1.keep hb, h.2.2.2.keep hb⟩
theorem Strs.form {w : World} {v : Value} {l : List ByteArray} (h : Strs w v l) : ∃ A c, v = .slice A l.length c := by
  obtain ⟨A, c, rfl, _⟩ := h
  exact ⟨A, c, rfl⟩
theorem Row.form {w : World} {v : Value} {size n : Nat} {xs : List Value} (h : Row w v size n xs) : ∃ A c, v = .slice A n c := by
  obtain ⟨_, A, c, rfl, _⟩ := h
  exact ⟨A, c, rfl⟩
theorem MsgAt.one {w : World} {p : MsgV} {m : MsgD} (h : MsgAt w p m) : ∀ u ∈ msgCells p, u.oneCell' = true := by
  obtain ⟨_, h1, h2, vs, h3, _⟩ := h
  obtain ⟨A1, c1, e1⟩ := h1.form
  obtain ⟨A2, c2, e2⟩ := h2.form
  obtain ⟨A3, c3, e3⟩ := h3.form
  intro u hu
  simp only [msgCells, List.mem_cons, List.not_mem_nil, or_false] at hu
  rcases hu with rfl | rfl | rfl | rfl
  · rfl
  · rw [e1]; rfl
  · rw [e2]; rfl
  · rw [e3]; rfl
/-- A slice of messages. -/
def Msgs (w : World) (v : Value) (l : List MsgD) : Prop := ∃ ms : List MsgV, Row w v 4 l.length (msgsCells ms) ∧ ∀ (j : Nat) (p : MsgV) (m : MsgD), ms[j]? = some p → l[j]? = some m → MsgAt w p m
theorem Msgs.keep {w w' : World} {v : Value} {l : List MsgD} (h : Msgs w v l) (hb : Below w.heap.size w w') : Msgs w' v l := by
  obtain ⟨ms, h1, h2⟩ := h
  exact ⟨ms, h1.keep hb, fun j p m hp hm => (h2 j p m hp hm).keep hb⟩
theorem Msgs.nil_ (w : World) : Msgs w (.slice none 0 0) [] := ⟨[], Row.nil_ w 4, fun j p m h => by simp at h⟩
/-- A transaction by value. -/
def txV (x : TxD) (ms sg : Value) : Value := .agg #[.string (strOf x.account), .int .i64 x.seq, .string (strOf x.denom), .int .i64 x.amount, ms, sg]
def TxAt (w : World) (v : Value) (x : TxD) : Prop := ∃ ms sg, v = txV x ms sg ∧ Msgs w ms x.msgs ∧ Bts w sg x.sign
theorem TxAt.keep {w w' : World} {v : Value} {x : TxD} (h : TxAt w v x) (hb : Below w.heap.size w w') : TxAt w' v x := by
  obtain ⟨ms, sg, rfl, h1, h2⟩ := h
  exact ⟨ms, sg, rfl, h1.keep hb, h2.keep hb⟩
def emptyTx : TxD := ⟨[], 0, [], 0, [], []⟩
theorem TxAt.empty_ (w : World) : TxAt w (.agg #[.string ⟨#[]⟩, .int .i64 0, .string ⟨#[]⟩, .int .i64 0, .slice none 0 0, .slice none 0 0]) emptyTx := ⟨_, _, rfl, Msgs.nil_ w, Bts.nil_ w⟩

/-- The list of a row of slices: what the j-th cell reads as. -/
theorem Row.cell {w : World} {v : Value} {size n : Nat} {xs : List Value} (h : Row w v size n xs) (h0 : 0 < n) : ∃ b o c, v = .slice (some ⟨b, o, none⟩) n c ∧ n ≤ c ∧ b < w.heap.size ∧ ∀ j u, xs[j]? = some u → w.cell? ⟨b, o + j, none⟩ = some u := by
  obtain ⟨_, A, c, rfl, hc, h⟩ := h
  obtain ⟨b, o, rfl, hlt, hcell⟩ := h h0
  exact ⟨b, o, c, rfl, hc.1, hlt, hcell⟩

/-- The i-th message's four cells. -/
theorem Msgs.at {w : World} {A : Option Addr} {n c i : Nat} {l : List MsgD} {m : MsgD} (h : Msgs w (.slice A n c) l) (hm : l[i]? = some m) :
    ∃ (bb o : Nat) (A1 A2 A3 : Option Addr) (c1 c2 c3 : Nat), A = some ⟨bb, o, none⟩ ∧ w.cell? ⟨bb, o + i * 4, none⟩ = some (.int .i64 m.kind) ∧ w.cell? ⟨bb, o + i * 4 + 1, none⟩ = some (.slice A1 m.texts.length c1) ∧ w.cell? ⟨bb, o + i * 4 + 2, none⟩ = some (.slice A2 m.ints.length c2) ∧ w.cell? ⟨bb, o + i * 4 + 3, none⟩ = some (.slice A3 m.data.length c3) ∧
      MsgAt w ⟨m.kind, .slice A1 m.texts.length c1, .slice A2 m.ints.length c2, .slice A3 m.data.length c3⟩ m := by
  obtain ⟨ms, hr, hall⟩ := h
  obtain rfl : n = l.length := by obtain ⟨_, A', c', e, _⟩ := hr; exact (Value.slice.inj e).2.1
  have hi : i < l.length := (List.getElem?_eq_some_iff.1 hm).1
  have hlen : ms.length = l.length := by have := hr.1; rw [msgsCells_length] at this; omega
  have hp : ms[i]? = some ms[i] := List.getElem?_eq_getElem (by omega)
  have hat := hall i _ m hp hm
  obtain ⟨g0, g1, g2, g3⟩ := msgsCells_get ms i _ hp
  obtain ⟨bb, o, c', e, _, _, hcell⟩ := hr.cell (by omega)
  obtain ⟨rfl, -, rfl⟩ := Value.slice.inj e
  clear hp hall
  generalize ms[i] = q at *
  obtain ⟨pk, pt, pi, pd⟩ := q
  obtain ⟨hk, h1, h2, h3⟩ := hat
  obtain ⟨A1, c1, e1⟩ := h1.form
  obtain ⟨A2, c2, e2⟩ := Row.form h2
  obtain ⟨A3, c3, e3⟩ : ∃ A c, pd = .slice A m.data.length c := by obtain ⟨vs, h3, _⟩ := h3; exact h3.form
  simp only at hk e1 e2 e3 g0 g1 g2 g3 h1 h2 h3
  rw [List.length_map] at e1
  subst hk e1 e2 e3
  refine ⟨bb, o, A1, A2, A3, c1, c2, c3, rfl, hcell _ _ g0, ?_, ?_, ?_, rfl, h1, h2, h3⟩
  · rw [Nat.add_assoc]; exact hcell _ _ g1
  · rw [Nat.add_assoc]; exact hcell _ _ g2
  · rw [Nat.add_assoc]; exact hcell _ _ g3

/-- How much a transaction holds. -/
def listW (l : List (List UInt8)) : Nat := (l.map fun b => b.length + 1).sum
def msgW (m : MsgD) : Nat := 1 + listW m.texts + m.ints.length + listW m.data
def txW (x : TxD) : Nat := x.account.length + x.denom.length + (x.msgs.map msgW).sum + x.sign.length
end Go.Proofs.YteajgnoimbdkbaaGreatDoor
