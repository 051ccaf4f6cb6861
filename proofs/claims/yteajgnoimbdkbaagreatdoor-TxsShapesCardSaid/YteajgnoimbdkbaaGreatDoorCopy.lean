/- copy of some bytes to the begin of a block of bytes. -/
import Derived.Test.YteajgnoimbdkbaaGreatDoorRep
import Derived.Laws.IdiomCopy

namespace Go.Proofs.YteajgnoimbdkbaaGreatDoor
open Go.RowKit

/-- Bytes that are read. -/
def Octets (w : World) (g o n : Nat) (b : Nat → Int) : Prop := ∀ i, i < n → w.cell? ⟨g, o + i, none⟩ = some (.int .u8 (b i))

/-- A block whose first n cells are bytes. -/
def Marks (w : World) (g n : Nat) (f : Nat → Int) : Prop := (∀ i, i < n → w.cell? ⟨g, i, none⟩ = some (.int .u8 (f i))) ∧ ∀ o, w.frozen? ⟨g, o, none⟩ = false
theorem Marks.set {w : World} {g n : Nat} {f : Nat → Int} (h : Marks w g n f) {i : Nat} (hi : i < n) (x : Int) : Marks (w.setCell ⟨g, i, none⟩ (.int .u8 x)) g n (fun k => if k = i then x else f k) := by
  refine ⟨fun k hk => ?_, fun o => (World.frozen?_setCell _ _ _ _).trans (h.2 o)⟩
  by_cases e : k = i
  · subst e
    simp only [if_true]
    exact World.cell?_setCell_same _ _ _ (h.1 k hk)
  · refine ((World.cell?_setCell_other _ _ _ _ (fun h => e (by simpa using h.symm))).trans (h.1 k hk)).trans ?_
    rw [show (fun k => if k = i then x else f k) k = f k from if_neg e]
theorem Marks.keep {w w' : World} {g n : Nat} {f : Nat → Int} (h : Marks w g n f) (hg : g < w.heap.size) (hb : Below w.heap.size w w') : Marks w' g n f :=
  ⟨fun k hk => (hb.cell (p := ⟨g, k, none⟩) hg).trans (h.1 k hk), fun o => (hb.frozen (p := ⟨g, o, none⟩) hg).trans (h.2 o)⟩
theorem Marks.grown {w w' : World} {g n : Nat} {f : Nat → Int} {r : Option Nat} (h : Marks w g n f) (hg : g < w.heap.size) (hb : w.grownBy w' r) (hr : some g ≠ r) : Marks w' g n f :=
  ⟨fun k hk => (World.cell?_of_block (a := ⟨g, k, none⟩) (hb.block g hg hr)).trans (h.1 k hk), fun o => (World.frozen?_of_block (a := ⟨g, o, none⟩) (hb.block g hg hr)).trans (h.2 o)⟩
theorem marks_zeros (w : World) (t : TypeId) (n : Nat) : Marks (w.alloc (.cells (Array.replicate n (.int .u8 0)) t)) w.heap.size n (fun _ => 0) := by
  refine ⟨fun i hi => (World.cell?_alloc_at _ _ _ _ rfl).trans ?_, fun o => World.frozen?_alloc_new _ _ _ o⟩
  rw [Array.getElem?_replicate, if_pos hi]

/-- n bytes as cells. -/
def octets (n : Nat) (b : Nat → Int) : List Value := (List.range n).map fun i => .int .u8 (b i)
theorem octets_length (n : Nat) (b : Nat → Int) : (octets n b).length = n := by simp [octets]
theorem octets_get {n : Nat} {b : Nat → Int} {i : Nat} (h : i < n) : (octets n b)[i]? = some (.int .u8 (b i)) := by simp [octets, h]

theorem grown_set {w w' : World} {g : Nat} (h : w.grownBy w' (some g)) (i : Nat) (u : Value) : w.grownBy (w'.setCell ⟨g, i, none⟩ u) (some g) :=
  ⟨h.os, h.tape, h.output, by simp only [World.setCell, Array.size_modify]; exact h.size, fun k hk hne => (Below.heap_setCell w' ⟨g, i, none⟩ u k (fun e => hne (by rw [e]))).trans (h.block k hk hne)⟩
theorem setCells_grown (g : Nat) : ∀ (vs : List Value) (o : Nat) (w w' : World), w.grownBy w' (some g) → w.grownBy (w'.setCells g o vs) (some g)
  | [], _, _, _, h => h
  | _ :: r, o, w, _, h => setCells_grown g r (o + 1) w _ (grown_set h o _)

theorem run_copy_marks {P : Program} (w : World) (dT sT ty elem : TypeId) (g m n : Nat) (f b : Nat → Int) (v : Value) (hu : P.underlying dT = some (.slice elem)) (hs : (P.info? elem).map (·.size) = some 1)
    (hD : Marks w g m f) (hr : Row w v 1 n (octets n b)) (hnm : n ≤ m) :
    ∃ w', (Builtin.copy_ #[dT, sT] ty #[.slice (some ⟨g, 0, none⟩) m m, v]).run P w = .ok (.int .i64 n) w' ∧ Marks w' g m (fun i => if i < n then b i else f i) ∧ w.grownBy w' (some g) := by
  obtain ⟨_, A, c, rfl, _, hcell⟩ := hr
  have hmin : Nat.min n m = n := Nat.min_eq_left hnm
  by_cases h0 : 0 < n
  · obtain ⟨sb, so, rfl, _, hce⟩ := hcell h0
    have hrun := run_copy_cells (P := P) w dT sT ty elem g 0 m m ⟨sb, so, none⟩ n c (octets n b) hu hs (by rw [octets_length, hmin])
      (fun j u hj => by
        rw [show (⟨sb, so, none⟩ : Addr).add j = ⟨sb, so + j, none⟩ by unfold Addr.add; split <;> simp_all]
        exact hce j u hj)
      (fun j hj => by rw [octets_length] at hj; rw [Nat.zero_add, hD.1 j (by omega)]; rfl) (fun j _ => hD.2 _) (fun u hu => by
        obtain ⟨i, _, rfl⟩ := List.mem_map.1 hu
        rfl)
    rw [octets_length] at hrun
    refine ⟨_, hrun, ⟨fun i hi => ?_, fun o => (World.frozen?_setCells _ _ _ _ _).trans (hD.2 o)⟩, setCells_grown g _ _ _ _ ⟨rfl, rfl, rfl, Nat.le_refl _, fun _ _ _ => rfl⟩⟩
    by_cases hin : i < n
    · have := World.cell?_setCells_in g (octets n b) 0 w (fun j hj => by rw [octets_length] at hj; rw [Nat.zero_add, hD.1 j (by omega)]; rfl) i (by rw [octets_length]; exact hin)
      rw [Nat.zero_add] at this
      rw [this]
      simp only [if_pos hin]
      have hg := octets_get (b := b) hin
      rw [List.getElem?_eq_getElem (by rw [octets_length]; exact hin)] at hg
      exact hg
    · simp only [if_neg hin]
      exact (World.cell?_setCells_out g _ _ _ _ (fun _ _ => Or.inr (by rw [octets_length]; simp; omega))).trans (hD.1 i hi)
  · obtain rfl : n = 0 := by omega
    exact ⟨w, run_copy_none (P := P) w dT sT ty elem _ A m m 0 c hu hs (by simp), ⟨fun i hi => hD.1 i hi, hD.2⟩, ⟨rfl, rfl, rfl, Nat.le_refl _, fun _ _ _ => rfl⟩⟩

theorem wpList_copy_marks {P : Program} {w : World} {ops : Array Oper} {rest : List Oper} {o : Oper} {a : Act} {Q : Exit → Act → World → Prop} (hgd : o.guard = none) (d s : Operand) (dT sT : TypeId)
    (ho : o.op = .call { callee := .builtin .copy, args := #[d, s], argTypes := #[dT, sT] }) (elem : TypeId) (hu : P.underlying dT = some (.slice elem)) (hsz : (P.info? elem).map (·.size) = some 1)
    (g m n : Nat) (f b : Nat → Int) (v : Value) (hd : a.eval d = .slice (some ⟨g, 0, none⟩) m m) (hs : a.eval s = v) (hD : Marks w g m f) (hr : Row w v 1 n (octets n b)) (hnm : n ≤ m)
    (h : ∀ w', Marks w' g m (fun i => if i < n then b i else f i) → w.grownBy w' (some g) → wpList P ops Q rest (a.put o.dst (.int .i64 n)) w') : wpList P ops Q (o :: rest) a w := by
  refine wpList_plain hgd fun K hK => ?_
  obtain ⟨w', hrun, h1, h2⟩ := run_copy_marks (P := P) w dT sT o.type elem g m n f b v hu hsz hD hr hnm
  unfold Oper.wp
  simp [execOp, ho, resolve, invoke, builtin, hd, hs, hrun, Result.andThen]
  exact hK _ _ (h w' h1 h2)
end Go.Proofs.YteajgnoimbdkbaaGreatDoor
