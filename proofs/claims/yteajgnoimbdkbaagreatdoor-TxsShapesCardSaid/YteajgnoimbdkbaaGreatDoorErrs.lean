/- What an error of the program is in memory. -/
import Derived.Test.YteajgnoimbdkbaaGreatDoorRows
import Derived.WalkKit
import Derived.WalkSpells
import Derived.WalkLawsBesides
import Derived.Deep.LoopGhost
import Derived.Deep.DeepFit
import Derived.Lib.Hide
namespace Go.Proofs.YteajgnoimbdkbaaGreatDoor
open Go.RowKit

/-- An error that is not nil: an Errno, or a Fault (below block B) round one; 'd' Faults lie round the Errno. -/
inductive ErrIs (B : Nat) (w : World) : Nat → Value → Int → Prop
  | no (n : Int) : ErrIs B w 0 (.iface 79 (.int .i64 n)) n
  | fault (d g : Nat) (cs : Array Value) (v : Value) (n : Int) : g < B → w.heap[g]? = some (.cells cs 120 (0, 0)) → cs[1]? = some v → ErrIs B w d v n → ErrIs B w (d + 1) (.iface 118 (.pointer (some ⟨g, 0, none⟩))) n
theorem ErrIs.iface {B : Nat} {w : World} {d : Nat} {v : Value} {n : Int} (h : ErrIs B w d v n) : ∃ t x, v = .iface t x := by
  cases h with
  | no => exact ⟨_, _, rfl⟩
  | fault => exact ⟨_, _, rfl⟩
theorem ErrIs.keep {B : Nat} {w w' : World} {d : Nat} {v : Value} {n : Int} (h : ErrIs B w d v n) (hb : Below B w w') : ErrIs B w' d v n := by
  induction h with
  | no n => exact .no n
  | fault d g cs v n hg hc hv _ ih => exact .fault d g cs v n hg ((hb.block g hg).trans hc) hv ih
theorem ErrIs.mono {B B' : Nat} {w : World} {d : Nat} {v : Value} {n : Int} (h : ErrIs B w d v n) (hB : B ≤ B') : ErrIs B' w d v n := by
  induction h with
  | no n => exact .no n
  | fault d g cs v n hg hc hv _ ih => exact .fault d g cs v n (Nat.lt_of_lt_of_le hg hB) hc hv ih
/-- A store into a block of another type leaves an error as it is. -/
theorem ErrIs.set {B : Nat} {w : World} {d : Nat} {v : Value} {n : Int} (h : ErrIs B w d v n) {p : Addr} (hp : ∀ cs fz, w.heap[p.block]? ≠ some (.cells cs 120 fz)) (u : Value) : ErrIs B (w.setCell p u) d v n := by
  induction h with
  | no n => exact .no n
  | fault d g cs v n hg hc hv _ ih => exact .fault d g cs v n hg ((Below.heap_setCell w p u g (fun e => hp cs _ (by rw [← e]; exact hc))).trans hc) hv ih
theorem cell_lt {w : World} {a : Addr} {v : Value} (h : w.cell? a = some v) : a.block < w.heap.size := by
  rcases Nat.lt_or_ge a.block w.heap.size with h' | h'
  · exact h'
  · simp [World.cell?, Array.getElem?_eq_none h'] at h
/-- An error with the number n (0: nil), in a world. -/
def IsErr (w : World) (v : Value) (n : Int) : Prop := (n = 0 ∧ v = .nilIface) ∨ (n ≠ 0 ∧ ∃ d, ErrIs w.heap.size w d v n)
theorem IsErr.keep {w w' : World} {v : Value} {n : Int} (h : IsErr w v n) (hb : Below w.heap.size w w') : IsErr w' v n :=
  h.imp id fun ⟨h0, d, hd⟩ => ⟨h0, d, (hd.keep hb).mono hb.size⟩
theorem IsErr.nil_ (w : World) : IsErr w .nilIface 0 := .inl ⟨rfl, rfl⟩
theorem IsErr.zero {w : World} {v : Value} (h : IsErr w v 0) : v = .nilIface := h.elim (·.2) fun h => absurd rfl h.1
theorem IsErr.iface {w : World} {v : Value} {n : Int} (h : IsErr w v n) (hn : n ≠ 0) : ∃ t x, v = .iface t x := h.elim (fun h => absurd h.1 hn) fun ⟨_, _, h⟩ => h.iface
/-- A new Fault round a number. -/
theorem IsErr.fault {w w' : World} {s : Value} {n : Int} {g : Nat} (hn : n ≠ 0) (hw : w' = w.alloc (.cells #[s, .iface 79 (.int .i64 n)] 120)) (hg : g = w.heap.size) : IsErr w' (.iface 118 (.pointer (some ⟨g, 0, none⟩))) n := by
  subst hw hg
  exact .inr ⟨hn, 1, .fault 0 _ _ _ n (by simp) (heap_alloc_new w _) rfl (.no n)⟩
theorem IsErr.set {w : World} {v : Value} {n : Int} (h : IsErr w v n) {p : Addr} (hp : ∀ cs fz, w.heap[p.block]? ≠ some (.cells cs 120 fz)) (u : Value) : IsErr (w.setCell p u) v n := by
  refine h.imp id fun ⟨h0, d, hd⟩ => ⟨h0, d, ?_⟩
  have : (w.setCell p u).heap.size = w.heap.size := by simp [World.setCell]
  rw [this]
  exact hd.set hp u
/-- A store elsewhere leaves a cell. -/
theorem cell_set {w : World} {p q : Addr} {u : Value} (h : p.block ≠ q.block) : (w.setCell p u).cell? q = w.cell? q := World.cell?_setCell_other w p q u (fun e => h (by rw [e]))
theorem below_alloc (w : World) (o : Obj) : Below w.heap.size w (w.alloc o) := (Below.refl _ _).alloc (Nat.le_refl _) o
theorem below_drewN {B : Nat} {w w' : World} (h : Below B w w') (k : Nat) : Below B w (w'.drewN k) := by
  induction k with
  | zero => exact h
  | succ k ih => exact ih.drew
/-- True is returned, and what was there stands. -/
def TruePost (w : World) (e : Ending) (w' : World) : Prop := e = .returned (.bool true) ∧ Below w.heap.size w w'
end Go.Proofs.YteajgnoimbdkbaaGreatDoor
