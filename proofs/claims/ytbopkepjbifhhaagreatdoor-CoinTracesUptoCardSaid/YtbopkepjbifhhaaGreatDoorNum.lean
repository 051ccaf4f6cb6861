/- The number that a law takes off an error: one contract for every error of the program. -/
import Derived.Test.YtbopkepjbifhhaaGreatDoorAs
namespace Go.Proofs.YtbopkepjbifhhaaGreatDoor
open Go.RowKit

/-- An error with the number n (0: nil), in a world. -/
def IsErr (w : World) (v : Value) (n : Int) : Prop := (n = 0 ∧ v = .nilIface) ∨ (n ≠ 0 ∧ ∃ d, ErrIs w.heap.size w d v n)

theorem IsErr.keep {w w' : World} {v : Value} {n : Int} (h : IsErr w v n) (hb : Below w.heap.size w w') : IsErr w' v n :=
  h.imp id fun ⟨h0, d, hd⟩ => ⟨h0, d, (hd.keep hb).mono hb.size⟩
theorem IsErr.nil_ (w : World) : IsErr w .nilIface 0 := .inl ⟨rfl, rfl⟩
theorem IsErr.zero {w : World} {v : Value} (h : IsErr w v 0) : v = .nilIface := h.elim (·.2) fun h => absurd rfl h.1
theorem IsErr.iface {w : World} {v : Value} {n : Int} (h : IsErr w v n) (hn : n ≠ 0) : ∃ t x, v = .iface t x := h.elim (fun h => absurd h.1 hn) fun ⟨_, _, h⟩ => h.iface
/-- A new Fault round a number. -/
theorem IsErr.fault {w w' : World} {s : Value} {n : Int} {g : Nat} (hn : n ≠ 0) (hw : w' = w.alloc (.cells #[s, .iface 45 (.int .i64 n)] 69)) (hg : g = w.heap.size) : IsErr w' (.iface 67 (.pointer (some ⟨g, 0, none⟩))) n := by
  subst hw hg
  exact .inr ⟨hn, 1, .fault 0 _ _ _ n (by simp) (heap_alloc_new w _) rfl (.no n)⟩
theorem IsErr.set {w : World} {v : Value} {n : Int} (h : IsErr w v n) {p : Addr} (hp : ∀ cs fz, w.heap[p.block]? ≠ some (.cells cs 69 fz)) (u : Value) : IsErr (w.setCell p u) v n := by
  refine h.imp id fun ⟨h0, d, hd⟩ => ⟨h0, d, ?_⟩
  have : (w.setCell p u).heap.size = w.heap.size := by simp [World.setCell]
  rw [this]
  exact hd.set hp u
/-- A store elsewhere leaves a cell. -/
theorem cell_set {w : World} {p q : Addr} {u : Value} (h : p.block ≠ q.block) : (w.setCell p u).cell? q = w.cell? q := World.cell?_setCell_other w p q u (fun e => h (by rw [e]))
theorem below_alloc (w : World) (o : Obj) : Below w.heap.size w (w.alloc o) := (Below.refl _ _).alloc (Nat.le_refl _) o

/-- True is returned, and what was there stands. -/
def TruePost (w : World) (e : Ending) (w' : World) : Prop := e = .returned (.bool true) ∧ Below w.heap.size w w'

def NumPost (n : Int) (w : World) (e : Ending) (w' : World) : Prop := e = .returned (.int .i64 n) ∧ Below w.heap.size w w'

set_option maxHeartbeats 1000000 in
theorem num_any (v : Value) (n : Int) (w : World) (h : IsErr w v n) (hg : ErrType w) : Calls Tryz.prog 11 #[v] w (NumPost n w) := by
  rcases h with ⟨rfl, rfl⟩ | ⟨_, d, h⟩
  · go_enter Tryz.func11, Tryz.ntmps11
    go_wp2
    go_ret
    exact ⟨rfl, below_alloc _ _⟩
  · have hb := below_alloc w (.cells #[.int .i64 0] 45)
    have hc := as_any d v n ⟨w.heap.size, 0, none⟩ (.int .i64 0) (w.alloc (.cells #[.int .i64 0] 45)) w.heap.size (h.keep hb) (by simp) ((hb.cell (cell_lt hg)).trans hg) (by simp) (by simp)
    obtain ⟨tt, x, rfl⟩ := h.iface
    clear h hg hb
    go_enter Tryz.func11, Tryz.ntmps11
    go_wp2_with (go_at_call 30; refine hc.mono ?_; rintro e w' ⟨rfl, o1, o2, o3, o4, rfl⟩)
    go_ret
    refine ⟨rfl, ?_⟩
    repeat (first | exact Below.refl _ _ | refine Below.setCell ?_ (by simp <;> omega) _ | refine Below.alloc ?_ (by simp <;> omega) _)
end Go.Proofs.YtbopkepjbifhhaaGreatDoor
