/- Messages in a row of the call's own. -/
import Derived.Test.YteajgnoimbdkbaaGreatDoorGet
namespace Go.Proofs.YteajgnoimbdkbaaGreatDoor
open Go.RowKit

def OwnMsgs (B : Nat) (w : World) (v : Value) (l : List MsgD) : Prop := ∃ ms, w.ownsRow B 35 4 v l.length (msgsCells ms) ∧ ms.length = l.length ∧ ∀ (j : Nat) (p : MsgV) (m : MsgD), ms[j]? = some p → l[j]? = some m → OwnMsg B w p m
theorem OwnMsgs.nil_ (B : Nat) (w : World) : OwnMsgs B w (.slice none 0 0) [] := ⟨[], World.ownsRow_nil _ _ _ _, rfl, fun j p m h => by simp at h⟩
theorem OwnMsgs.at {B : Nat} {w : World} {v : Value} {l : List MsgD} (h : OwnMsgs B w v l) : Msgs w v l := by
  obtain ⟨ms, h1, _, h2⟩ := h
  exact ⟨ms, Row.of_own h1, fun j p m hp hm => (h2 j p m hp hm).at⟩
theorem OwnMsgs.keepG {B g : Nat} {w w' : World} {v : Value} {l : List MsgD} (h : OwnMsgs B w v l) (hg : w.grownBy w' (some g)) (hB : g < B) : OwnMsgs B w' v l := by
  obtain ⟨ms, h1, h0, h2⟩ := h
  exact ⟨ms, own_keepG h1 hg hB, h0, fun j p m hp hm => (h2 j p m hp hm).keepG hg hB⟩
theorem OwnMsgs.stored {B k i : Nat} {w : World} {v u : Value} {l : List MsgD} (h : OwnMsgs B w v l) (hk : k < B) : OwnMsgs B (w.setCell ⟨k, i, none⟩ u) v l := by
  obtain ⟨ms, h1, h0, h2⟩ := h
  exact ⟨ms, own_stored h1 hk, h0, fun j p m hp hm => (h2 j p m hp hm).stored hk⟩
theorem OwnMsgs.below {B : Nat} {w w' : World} {v : Value} {l : List MsgD} (h : OwnMsgs B w v l) (hb : Below w.heap.size w w') : OwnMsgs B w' v l := by
  obtain ⟨ms, h1, h0, h2⟩ := h
  exact ⟨ms, own_belowW h1 hb, h0, fun j p m hp hm => (h2 j p m hp hm).below hb⟩
theorem msgsCells_snoc (l : List MsgV) (p : MsgV) : msgsCells (l ++ [p]) = msgsCells l ++ msgCells p := by simp [msgsCells]
/-- One message more: what the append of its cells makes. -/
theorem OwnMsgs.push {B : Nat} {w w' : World} {A A' : Option Addr} {i c c' : Nat} {l : List MsgD} {ms : List MsgV} {p : MsgV} {m : MsgD} (hl : l.length = i) (hml : ms.length = i)
    (hall : ∀ (j : Nat) (p : MsgV) (m : MsgD), ms[j]? = some p → l[j]? = some m → OwnMsg B w p m) (hp : OwnMsg B w p m) (ho : w.ownsRow B 35 4 (.slice A i c) i (msgsCells ms)) (hg : w.grownBy w' (Value.slice A i c).ownBlock)
    (hown : w'.ownsRow B 35 4 (.slice A' (i + 1) c') (i + 1) (msgsCells ms ++ msgCells p)) : OwnMsgs B w' (.slice A' (i + 1) c') (l ++ [m]) := by
  refine ⟨ms ++ [p], by rw [msgsCells_snoc, List.length_append, hl]; exact hown, by simp [hml, hl], fun j q u hq hu => ?_⟩
  have key : ∀ {q u}, OwnMsg B w q u → OwnMsg B w' q u := fun h => h.other ho (by decide) (by decide) (by decide) (by decide) hg
  rcases Nat.lt_or_ge j i with hj | hj
  · rw [List.getElem?_append_left (by omega)] at hq hu
    exact key (hall j q u hq hu)
  · rw [List.getElem?_append_right (by omega), hml] at hq
    rw [List.getElem?_append_right (by omega), hl] at hu
    rcases hji : j - i with _ | n
    · rw [hji] at hq hu
      obtain rfl : p = q := by simpa using hq
      obtain rfl : m = u := by simpa using hu
      exact key hp
    · rw [hji] at hq
      simp at hq

/-- get, its result written out. -/
def GetPost2 (B g : Nat) (m : MsgD) (r' : Rd) (n : Nat) (w : World) (e : Ending) (w' : World) : Prop := ∃ A1 A2 A3 c1 c2 c3, e = .returned (.agg #[.int .i64 m.kind, .slice A1 m.texts.length c1, .slice A2 m.ints.length c2, .slice A3 m.data.length c3]) ∧ ReaderAt B g r' w' ∧ r'.b.length ≤ n ∧ w.grownBy w' (some g) ∧ OwnMsg w.heap.size w' ⟨m.kind, .slice A1 m.texts.length c1, .slice A2 m.ints.length c2, .slice A3 m.data.length c3⟩ m
theorem get_any2 (B g : Nat) (r : Rd) (w : World) (h : ReaderAt B g r w) (hl : r.b.length ≤ 140737488355328) : Calls Tryz.prog 48 #[.pointer (some ⟨g, 0, none⟩)] w (GetPost2 B g (rdMsg r).1 (rdMsg r).2 r.b.length w) := by
  refine (get_any B g r w h hl).mono ?_
  rintro e w' ⟨⟨pk, pt, pi, pd⟩, rfl, h1, h2, h3, h4, _⟩
  obtain ⟨e0, o1, o2, o3⟩ := id h4
  obtain ⟨A1, c1, e1⟩ := slice_of_own o1
  obtain ⟨A2, c2, e2⟩ := slice_of_own o2
  obtain ⟨vs, o3, _⟩ := o3
  obtain ⟨A3, c3, e3⟩ := slice_of_own o3
  simp only at e0 e1 e2 e3
  subst e0 e1 e2 e3
  exact ⟨A1, A2, A3, c1, c2, c3, rfl, h1, h2, h3, h4⟩
theorem ReaderAt.belowW {B g : Nat} {r : Rd} {w w' : World} (h : ReaderAt B g r w) (hb : Below w.heap.size w w') : ReaderAt B g r w' := h.keep hb
/-- Where Decode stands. -/
structure DecSt (B g gr gx : Nat) (w : World) (a : List UInt8) (s : Int) (d : List UInt8) (f : Int) (ms sg : Value) (r : Rd) : Prop where
  rd : ReaderAt B g r w
  len : r.b.length ≤ 140737488355328
  box : w.heap[gx]? = some (.cells #[.string (strOf a), .int .i64 s, .string (strOf d), .int .i64 f, ms, sg] 29 (0, 0))
  res : w.heap[gr]? = some (.cells #[.string ⟨#[]⟩, .int .i64 0, .string ⟨#[]⟩, .int .i64 0, .slice none 0 0, .slice none 0 0] 29 (0, 0))
theorem DecSt.reader {B g gr gx : Nat} {w w' : World} {a d : List UInt8} {s f : Int} {ms sg : Value} {r r' : Rd} (h : DecSt B g gr gx w a s d f ms sg r) (h1 : gr ≠ g) (h2 : gx ≠ g) (hr : ReaderAt B g r' w') (hl : r'.b.length ≤ r.b.length) (hg : w.grownBy w' (some g)) : DecSt B g gr gx w' a s d f ms sg r' :=
  ⟨hr, Nat.le_trans hl h.len, box_keepG h.box hg h2, box_keepG h.res hg h1⟩
theorem DecSt.cells {B g gr gx : Nat} {w : World} {a d : List UInt8} {s f : Int} {ms sg : Value} {r : Rd} (h : DecSt B g gr gx w a s d f ms sg r) : w.cell? ⟨gx, 0, none⟩ = some (.string (strOf a)) ∧ w.cell? ⟨gx, 1, none⟩ = some (.int .i64 s) ∧ w.cell? ⟨gx, 2, none⟩ = some (.string (strOf d)) ∧ w.cell? ⟨gx, 3, none⟩ = some (.int .i64 f) ∧ w.cell? ⟨gx, 4, none⟩ = some ms ∧ w.cell? ⟨gx, 5, none⟩ = some sg ∧ (∀ o, w.frozen? ⟨gx, o, none⟩ = false) ∧ gx < w.heap.size := by
  refine ⟨?_, ?_, ?_, ?_, ?_, ?_, fun o => Lib.frozen_of_heap h.box o, (Array.getElem?_eq_some_iff.1 h.box).1⟩ <;> simp [World.cell?, h.box]
theorem DecSt.push {B g gr gx B' e z n i : Nat} {w w' : World} {a d : List UInt8} {s f : Int} {ms sg ms' sg' v u : Value} {r : Rd} {xs : List Value} {o : Obj} (h : DecSt B g gr gx w a s d f ms sg r) (hB : B ≤ gx) (hgx : gx ≠ g) (hBB : gx < B') (hrr : gr < B') (hgg : g < B') (hrx : gr ≠ gx) (he : e ≠ 120)
    (ho : (w.alloc o).ownsRow B' e z v n xs) (hg : (w.alloc o).grownBy w' v.ownBlock) (hcs : (#[.string (strOf a), .int .i64 s, .string (strOf d), .int .i64 f, ms, sg] : Array Value).setIfInBounds i u = #[.string (strOf a), .int .i64 s, .string (strOf d), .int .i64 f, ms', sg']) : DecSt B g gr gx (w'.setCell ⟨gx, i, none⟩ u) a s d f ms' sg' r := by
  have hr1 := (h.rd.keep (below_alloc w o)).other ho (by omega) hgg he hg
  have hne : ∀ q, q < B' → some q ≠ v.ownBlock := fun q hq e => by have := (ho.lt q e.symm).1; omega
  have hb1 : w'.heap[gx]? = some (.cells #[.string (strOf a), .int .i64 s, .string (strOf d), .int .i64 f, ms, sg] 29 (0, 0)) := by
    have hlt := (Array.getElem?_eq_some_iff.1 h.box).1
    exact (hg.block gx (by rw [World.size_alloc]; omega) (hne gx hBB)).trans ((heap_alloc_old w o hlt).trans h.box)
  have hb2 : w'.heap[gr]? = some (.cells #[.string ⟨#[]⟩, .int .i64 0, .string ⟨#[]⟩, .int .i64 0, .slice none 0 0, .slice none 0 0] 29 (0, 0)) := by
    have hlt := (Array.getElem?_eq_some_iff.1 h.res).1
    exact (hg.block gr (by rw [World.size_alloc]; omega) (hne gr hrr)).trans ((heap_alloc_old w o hlt).trans h.res)
  exact ⟨hr1.stored hb1 hB hgx (by decide), h.len, box_stored hb1 hcs, (Below.heap_setCell w' ⟨gx, i, none⟩ u gr hrx).trans hb2⟩
theorem grownBelow {B g : Nat} {w0 w w' : World} (h : Below B w0 w) (hg : w.grownBy w' (some g)) (hB : B ≤ g) (hs : B ≤ w.heap.size) : Below B w0 w' := h.grown hg hs (fun k e => by cases e; exact hB)
end Go.Proofs.YteajgnoimbdkbaaGreatDoor
