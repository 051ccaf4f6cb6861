/- What the walks hold on to: blocks, rows and errors that stand. -/
import Derived.Test.YtbopkepjbifhhaaGreatDoorSame
namespace Go.Proofs.YtbopkepjbifhhaaGreatDoor
open Go.RowKit

/-- A block that did not grow is known whole. -/
theorem grown_block {W w2 : World} {row : Option Nat} (h : W.grownBy w2 row) {g : Nat} {cs : Array Value} {t : TypeId} (hg : W.heap[g]? = some (.cells cs t (0, 0))) (hne : some g ≠ row) :
    (∀ i, w2.cell? ⟨g, i, none⟩ = cs[i]?) ∧ (∀ i, w2.frozen? ⟨g, i, none⟩ = false) := by
  have hlt : g < W.heap.size := (Array.getElem?_eq_some_iff.1 hg).1
  have h2 := (h.block g hlt hne).trans hg
  exact ⟨fun i => cell_of_row w2 g i cs t (0, 0) h2, fun i => by simp [World.frozen?, h2]⟩

theorem own_set {w : World} {base : Nat} {e : TypeId} {size n : Nat} {v : Value} {xs : List Value} (h : w.ownsRow base e size v n xs) {p : Addr} (hne : v.ownBlock ≠ some p.block) (u : Value) : (w.setCell p u).ownsRow base e size v n xs :=
  h.kept (row := some p.block) ⟨rfl, rfl, rfl, by simp [World.setCell], fun k _ hk => Below.heap_setCell w p u k (fun e => hk (by rw [e]))⟩ (.inr hne)

/-- A block of two cells, both of which have been stored into. -/
theorem set2_cells {w : World} {g : Nat} {x y u v : Value} (mc : ∀ i, w.cell? ⟨g, i, none⟩ = (#[x, y] : Array Value)[i]?) :
    ((w.setCell ⟨g, 0, none⟩ u).setCell ⟨g, 1, none⟩ v).cell? ⟨g, 0, none⟩ = some u ∧ ((w.setCell ⟨g, 0, none⟩ u).setCell ⟨g, 1, none⟩ v).cell? ⟨g, 1, none⟩ = some v := by
  have h0 : w.cell? ⟨g, 0, none⟩ = some x := mc 0
  have h1 : w.cell? ⟨g, 1, none⟩ = some y := mc 1
  constructor
  · rw [World.cell?_setCell_other _ _ _ _ (by simp), World.cell?_setCell_same _ _ _ h0]
  · exact World.cell?_setCell_same _ _ _ ((World.cell?_setCell_other _ _ _ _ (by simp)).trans h1)

theorem own_keep {w w' : World} {base : Nat} {e : TypeId} {size n : Nat} {v : Value} {xs : List Value} (h : w.ownsRow base e size v n xs) (hb : Below w.heap.size w w') : w'.ownsRow base e size v n xs :=
  h.kept (row := none) ⟨hb.os, hb.tape, hb.output, hb.size, fun k hk _ => hb.block k hk⟩ (by cases v.ownBlock <;> simp)

/-- A block that holds no Fault. -/
def NotFault (w : World) (g : Nat) : Prop := ∀ cs fz, w.heap[g]? ≠ some (.cells cs 69 fz)
theorem NotFault.of {w : World} {g : Nat} {cs : Array Value} {t : TypeId} {fz : Nat × Nat} (h : w.heap[g]? = some (.cells cs t fz)) (ht : t ≠ 69) : NotFault w g := by
  intro cs' fz' h'
  rw [h] at h'
  injection h' with h'
  injection h' with _ h2
  exact ht h2
theorem NotFault.keep {w w' : World} {g : Nat} (h : NotFault w g) (hb : Below w.heap.size w w') (hg : g < w.heap.size) : NotFault w' g := fun cs fz => by rw [hb.block g hg]; exact h cs fz
theorem NotFault.set {w : World} {g : Nat} (h : NotFault w g) (p : Addr) (u : Value) : NotFault (w.setCell p u) g := by
  intro cs fz h'
  simp only [World.setCell, Array.getElem?_modify] at h'
  split at h'
  · cases hh : w.heap[g]? with
    | none => rw [hh] at h'; cases h'
    | some o =>
      rw [hh] at h'
      cases o with
      | cells c t f =>
        simp only [Option.map_some, Option.some.injEq] at h'
        cases h'
        exact h _ _ hh
      | _ => simp at h'
  · exact h cs fz h'
theorem IsErr.set_ {w : World} {v : Value} {n : Int} (h : IsErr w v n) {p : Addr} (hp : NotFault w p.block) (u : Value) : IsErr (w.setCell p u) v n := h.set hp u

def WayPost (r : (List ByteArray × ByteArray) × Int) (w : World) (e : Ending) (w' : World) : Prop :=
  ∃ v ev, e = .returned (.tuple #[.agg #[v, .string r.1.2], ev]) ∧ Strs w' v r.1.1 ∧ IsErr w' ev r.2 ∧ Below w.heap.size w w'
theorem strs_nil (w : World) : Strs w (.slice none 0 0) [] := ⟨none, 0, rfl, ⟨Nat.le_refl _, fun _ => rfl⟩, fun h => absurd h (by simp)⟩

/-- A block whose two cells are known. -/
structure Two (w : World) (g : Nat) (a b : Value) : Prop where
  c0 : w.cell? ⟨g, 0, none⟩ = some a
  c1 : w.cell? ⟨g, 1, none⟩ = some b
theorem Two.keep {w w' : World} {g : Nat} {a b : Value} (h : Two w g a b) (hb : Below w.heap.size w w') : Two w' g a b := ⟨(hb.cell (p := ⟨g, 0, none⟩) (cell_lt h.c0)).trans h.c0, (hb.cell (p := ⟨g, 1, none⟩) (cell_lt h.c1)).trans h.c1⟩
theorem two_new (w : World) (a b : Value) (t : TypeId) : Two (w.alloc (.cells #[a, b] t)) w.heap.size a b := ⟨by simp, by simp⟩
end Go.Proofs.YtbopkepjbifhhaaGreatDoor
