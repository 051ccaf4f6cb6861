/- An array of bytes, loaded and stored as a whole. -/
import Derived.Test.YteajgnoimbdkbaaGreatDoorCopy
import Derived.Deep.WholeRow
namespace Go.Proofs.YteajgnoimbdkbaaGreatDoor
open Go.RowKit

/-- An array of n bytes as a value. -/
def bytesV (n : Nat) (f : Nat → Int) : Value := .agg (octets n f).toArray

theorem run_loadVar_marks {P : Program} (w : World) (t e : TypeId) (g n : Nat) (f : Nat → Int) (hu : P.underlying t = some (.array n e)) (hi : (P.info? t).map (·.size) = some n) (h : Marks w g n f) :
    (loadVar t ⟨g, 0, none⟩).run P w = .ok (bytesV n f) w := by
  have hl := run_loadCells_list (P := P) w ⟨g, 0, none⟩ (octets n f) (fun j v hv => by
    have hj : j < n := by have := (List.getElem?_eq_some_iff.1 hv).1; rwa [octets_length] at this
    rw [octets_get hj] at hv
    rw [show (⟨g, 0, none⟩ : Addr).add j = ⟨g, j, none⟩ by unfold Addr.add; split <;> simp_all, h.1 j hj, hv])
  rw [octets_length] at hl
  cases hq : P.info? t with
  | none => simp [hq] at hi
  | some i =>
    have hs : i.size = n := by simpa [hq] using hi
    simp [loadVar, isAgg, run_underlying hu, sizeOf, typeInfo, hq, hs, hl, bytesV]

theorem run_storeVar_marks {P : Program} (w : World) (t : TypeId) (g n : Nat) (f0 f : Nat → Int) (hi : (P.info? t).map (·.size) = some n) (h : Marks w g n f0) :
    ∃ w', (storeVar t ⟨g, 0, none⟩ (bytesV n f)).run P w = .ok () w' ∧ Marks w' g n f ∧ w.grownBy w' (some g) := by
  have hst := run_storeCells_cells (P := P) g 0 (octets n f) 0 w (fun j hj => by rw [octets_length] at hj; simp only [Nat.zero_add]; rw [h.1 j hj]; rfl) (fun j _ => h.2 _) (fun u hu => by
    obtain ⟨i, _, rfl⟩ := List.mem_map.1 hu
    rfl)
  refine ⟨w.setCells g 0 (octets n f), ?_, ⟨fun i hi => ?_, fun o => (World.frozen?_setCells _ _ _ _ _).trans (h.2 o)⟩, setCells_grown g _ _ _ _ ⟨rfl, rfl, rfl, Nat.le_refl _, fun _ _ _ => rfl⟩⟩
  · cases hq : P.info? t with
    | none => simp [hq] at hi
    | some i =>
      have hs : i.size = n := by simpa [hq] using hi
      simpa [storeVar, sizeOf, typeInfo, hq, hs, Value.cells, bytesV, octets_length] using hst
  · have := World.cell?_setCells_in g (octets n f) 0 w (fun j hj => by rw [octets_length] at hj; rw [Nat.zero_add, h.1 j (by omega)]; rfl) i (by rw [octets_length]; exact hi)
    rw [Nat.zero_add] at this
    rw [this]
    have hg := octets_get (b := f) hi
    rw [List.getElem?_eq_getElem (by rw [octets_length]; exact hi)] at hg
    exact hg

theorem wpList_load_marks {P : Program} {w : World} {ops : Array Oper} {rest : List Oper} {o : Oper} {a : Act} {Q : Exit → Act → World → Prop} (hgd : o.guard = none) (x : Operand) (t e : TypeId) (ho : o.op = .load t x)
    (g n : Nat) (f : Nat → Int) (hu : P.underlying t = some (.array n e)) (hi : (P.info? t).map (·.size) = some n) (hx : a.eval x = .pointer (some ⟨g, 0, none⟩)) (hM : Marks w g n f)
    (h : wpList P ops Q rest (a.put o.dst (bytesV n f)) w) : wpList P ops Q (o :: rest) a w := by
  refine wpList_plain hgd fun K hK => ?_
  have hrun := run_loadVar_marks (P := P) w t e g n f hu hi hM
  unfold Oper.wp
  simp [execOp, ho, hx, Instr.loadAt, Instr.sureAddr, hrun, Result.andThen]
  exact hK _ _ h

theorem wpList_store_marks {P : Program} {w : World} {ops : Array Oper} {rest : List Oper} {o : Oper} {a : Act} {Q : Exit → Act → World → Prop} (hgd : o.guard = none) (x y : Operand) (t : TypeId) (ho : o.op = .store t x y)
    (g n : Nat) (f0 f : Nat → Int) (hi : (P.info? t).map (·.size) = some n) (hx : a.eval x = .pointer (some ⟨g, 0, none⟩)) (hy : a.eval y = bytesV n f) (hM : Marks w g n f0)
    (h : ∀ w', Marks w' g n f → w.grownBy w' (some g) → wpList P ops Q rest (a.put o.dst undef) w') : wpList P ops Q (o :: rest) a w := by
  refine wpList_plain hgd fun K hK => ?_
  obtain ⟨w', hrun, h1, h2⟩ := run_storeVar_marks (P := P) w t g n f0 f hi hM
  unfold Oper.wp
  simp [execOp, ho, hx, hy, Instr.storeAt, Instr.sureAddr, hrun, Result.andThen]
  exact hK _ _ (h w' h1 h2)
end Go.Proofs.YteajgnoimbdkbaaGreatDoor
