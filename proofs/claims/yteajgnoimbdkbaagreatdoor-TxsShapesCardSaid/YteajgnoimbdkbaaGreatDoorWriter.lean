/- pack.Writer: what its methods lay behind what it holds. -/
import Derived.Test.YteajgnoimbdkbaaGreatDoorPackLaw
import Derived.Lib.Builder
namespace Go.Proofs.YteajgnoimbdkbaaGreatDoor
open Go.RowKit

/-- Bytes as cells. -/
def cellsL (l : List UInt8) : List Value := l.map fun b => .int .u8 (b.toNat : Int)
theorem cellsL_length (l : List UInt8) : (cellsL l).length = l.length := by simp [cellsL]
theorem cellsL_one (l : List UInt8) : ∀ u ∈ cellsL l, u.oneCell' = true := by
  intro u hu
  obtain ⟨i, _, rfl⟩ := List.mem_map.1 hu
  rfl
/-- A writer in block g, one of the call's own (from B on), that holds these bytes. -/
def WriterAt (B g : Nat) (l : List UInt8) (w : World) : Prop :=
  B ≤ g ∧ ∃ A c, w.heap[g]? = some (.cells #[.slice A l.length c] 141 (0, 0)) ∧ w.ownsRow B 5 1 (.slice A l.length c) l.length (cellsL l) ∧ (Value.slice A l.length c).ownBlock ≠ some g
theorem infoU8w : (Tryz.prog.info? 5).map (fun i => (i.zero, i.size, i.bytes)) = some (some (.int .u8 0), 1, 1) := by kernel_rfl

/-- The block of a writer's row. -/
def rowOf (w : World) (g : Nat) : Option Nat := match w.heap[g]? with
  | some (.cells cs _ _) => (cs.getD 0 .nilIface).ownBlock
  | _ => none
/-- What a writer's methods leave: all blocks but the writer's own and its row's. -/
def WKeep (g : Nat) (w w' : World) : Prop := w.heap.size ≤ w'.heap.size ∧ (∀ k, k < w.heap.size → k ≠ g → rowOf w g ≠ some k → w'.heap[k]? = w.heap[k]?) ∧ (rowOf w' g = rowOf w g ∨ ∃ k, rowOf w' g = some k ∧ w.heap.size ≤ k)
theorem WKeep.refl (g : Nat) (w : World) : WKeep g w w := ⟨Nat.le_refl _, fun _ _ _ _ => rfl, .inl rfl⟩
theorem WKeep.trans {g : Nat} {a b c : World} (h : WKeep g a b) (k : WKeep g b c) : WKeep g a c := by
  obtain ⟨h1, h2, h3⟩ := h
  obtain ⟨k1, k2, k3⟩ := k
  refine ⟨Nat.le_trans h1 k1, fun i hi hg hr => (k2 i (by omega) hg ?_).trans (h2 i hi hg hr), ?_⟩
  · rcases h3 with h3 | ⟨j, h3, hj⟩
    · rw [h3]; exact hr
    · rw [h3]; intro e; have := Option.some.inj e; omega
  · rcases k3 with k3 | ⟨j, k3, hj⟩
    · rw [k3]; exact h3
    · exact .inr ⟨j, k3, by omega⟩
theorem rowOf_at {w : World} {g : Nat} {v : Value} {t : TypeId} {fz : Nat × Nat} (h : w.heap[g]? = some (.cells #[v] t fz)) : rowOf w g = v.ownBlock := by simp [rowOf, h]
theorem WKeep.alloc (g : Nat) (w : World) (o : Obj) (hg : g < w.heap.size) : WKeep g w (w.alloc o) :=
  ⟨by simp, fun k hk _ _ => heap_alloc_old w o hk, .inl (by unfold rowOf; rw [heap_alloc_old w o hg])⟩
theorem WKeep.put {g : Nat} {v u : Value} {t : TypeId} {w w' : World} (hbk : w.heap[g]? = some (.cells #[v] t (0, 0))) (hne : v.ownBlock ≠ some g) (hg : w.grownBy w' v.ownBlock) (hat : u.ownBlock = v.ownBlock ∨ u.ownBlock = some w.heap.size) : WKeep g w (w'.setCell ⟨g, 0, none⟩ u) := by
  have hlt : g < w.heap.size := (Array.getElem?_eq_some_iff.1 hbk).1
  have h2 : w'.heap[g]? = some (.cells #[v] t (0, 0)) := (hg.block g hlt (fun e => hne e.symm)).trans hbk
  have h3 : (w'.setCell ⟨g, 0, none⟩ u).heap[g]? = some (.cells #[u] t (0, 0)) := by
    simp only [World.setCell, Array.getElem?_modify, h2]
    simp
  refine ⟨by have := hg.size; simpa [World.setCell] using this, fun k hk hkg hr => ?_, ?_⟩
  · rw [Below.heap_setCell w' ⟨g, 0, none⟩ _ k hkg]
    exact hg.block k hk (fun e => hr (by rw [rowOf_at hbk]; exact e.symm))
  · rw [rowOf_at h3, rowOf_at hbk]
    rcases hat with h | h
    · exact .inl h
    · exact .inr ⟨_, h, Nat.le_refl _⟩

def WriterPost (B g : Nat) (l : List UInt8) (w : World) (e : Ending) (w' : World) : Prop := e = .returned (.pointer (some ⟨g, 0, none⟩)) ∧ WriterAt B g l w' ∧ Below B w w' ∧ WKeep g w w'

theorem writer_put {B g : Nat} {l m : List UInt8} {A A' : Option Addr} {c c' : Nat} {w w' : World} (hB : B ≤ g) (hbk : w.heap[g]? = some (.cells #[.slice A l.length c] 141 (0, 0))) (hne : (Value.slice A l.length c).ownBlock ≠ some g)
    (hg : w.grownBy w' (Value.slice A l.length c).ownBlock) (hown : w'.ownsRow B 5 1 (.slice A' m.length c') m.length (cellsL m)) (hat : (Value.slice A' m.length c').ownBlock = (Value.slice A l.length c).ownBlock ∨ (Value.slice A' m.length c').ownBlock = some w.heap.size) :
    WriterAt B g m (w'.setCell ⟨g, 0, none⟩ (.slice A' m.length c')) := by
  have hlt : g < w.heap.size := (Array.getElem?_eq_some_iff.1 hbk).1
  have h2 : w'.heap[g]? = some (.cells #[.slice A l.length c] 141 (0, 0)) := (hg.block g hlt (fun e => hne e.symm)).trans hbk
  have hne2 : (Value.slice A' m.length c').ownBlock ≠ some g := by
    rcases hat with h | h <;> rw [h]
    · exact hne
    · simp; omega
  refine ⟨hB, A', c', ?_, ?_, hne2⟩
  · simp only [World.setCell, Array.getElem?_modify, h2]
    simp
  · exact hown.kept (row := some g) ⟨rfl, rfl, rfl, by simp [World.setCell], fun k _ hk => Below.heap_setCell w' ⟨g, 0, none⟩ _ k (fun e => hk (by rw [e]))⟩ (.inr hne2)

set_option maxRecDepth 100000 in
set_option maxHeartbeats 2000000 in
/-- raw lays bytes as they are. -/
theorem raw_any (B g : Nat) (l m : List UInt8) (v : Value) (w : World) (h : WriterAt B g l w) (hr : Row w v 1 m.length (cellsL m)) (hlen : l.length + m.length ≤ 140737488355328) (hBw : B ≤ w.heap.size) :
    Calls Tryz.prog 74 #[.pointer (some ⟨g, 0, none⟩), v] w (WriterPost B g (l ++ m) w) := by
  obtain ⟨i0, hi0, hz0, hz1, hz2⟩ := info_parts infoU8w
  obtain ⟨hB, A, c, hbk, hown, hne⟩ := h
  have hlt : g < w.heap.size := (Array.getElem?_eq_some_iff.1 hbk).1
  have c0 : w.cell? ⟨g, 0, none⟩ = some (.slice A l.length c) := by simp [World.cell?, hbk]
  obtain ⟨_, A2, c2, rfl, _⟩ := id hr
  have hmx : l.length + m.length ≤ maxLen := by unfold maxLen; omega
  have hmy : (l.length + m.length) * 1 ≤ 140737488355328 := by omega
  have H1 := Lib.hid hbk
  clear hbk
  go_enter Tryz.func74, Tryz.ntmps74
  go_wp2_with (at_builtin; refine wpList_append_row rfl _ _ 27 rfl B 5 i0 (.int .u8 0) 1 1 Tryz.underlying27 hi0 hz0 hz1 hz2 rfl (by decide) (.slice A l.length c) l.length (cellsL l) rfl hown (.slice A2 m.length c2) m.length (cellsL m) rfl hr (cellsL_one m) hmx hmy hBw ?_; intro A7 c7 w7 hown7 hgrow7 hat7; have hb7 := (hgrow7.block g hlt (fun e => hne e.symm)).trans H1.out; have d0 := Lib.cell_of_heap hb7 0; have f0 := Lib.frozen_of_heap hb7 0; clear hb7)
  go_ret
  have e1 : (l ++ m).length = l.length + m.length := by simp
  have e2 : cellsL (l ++ m) = cellsL l ++ cellsL m := by simp [cellsL]
  have hp := writer_put (m := l ++ m) (A' := A7) (c' := c7) hB H1.out hne hgrow7 (by rw [e1, e2]; exact hown7) (by rw [e1]; exact hat7)
  rw [e1] at hp
  exact ⟨rfl, hp, ((Below.refl B w).grown hgrow7 hBw (fun k hk => (hown.lt k hk).1)).setCell hB _, WKeep.put H1.out hne hgrow7 hat7⟩

theorem or_128 (x : Int) (h0 : 0 ≤ x) (h1 : x < 256) : bits .or .u8 x 128 = x % 128 + 128 := by
  have h : ∀ a : Fin 256, bits .or .u8 ((a : Nat) : Int) 128 = ((a : Nat) : Int) % 128 + 128 := by decide +kernel
  have := h ⟨x.toNat, by omega⟩
  simpa [Int.toNat_of_nonneg h0] using this
theorem uintL_shift {m : Nat} (h : ¬m < 128) : (uintL (m / 128)).length + 1 = (uintL m).length := by rw [uintL_big h]; simp

set_option maxRecDepth 100000 in
set_option maxHeartbeats 2000000 in
/-- Uint lays a number from 0 on. -/
theorem uint_any (B g : Nat) (l : List UInt8) (n : Nat) (w : World) (h : WriterAt B g l w) (hn : n < 18446744073709551616) (hlen : l.length + (uintL n).length ≤ 140737488355328) :
    Calls Tryz.prog 73 #[.pointer (some ⟨g, 0, none⟩), .int .u64 (n : Int)] w (WriterPost B g (l ++ uintL n) w) := by
  obtain ⟨i0, hi0, hz0, hz1, hz2⟩ := info_parts infoU8w
  have hb0 := Below.refl B w
  go_enter Tryz.func73, Tryz.ntmps73
  go_wp2_with fail
  go_loopg [1] (uintL n).length (fun k v wq => ∃ (m : Nat) (l' : List UInt8), (uintL m).length = k ∧ v = .int .u64 (m : Int) ∧ m < 18446744073709551616 ∧ l' ++ uintL m = l ++ uintL n ∧ WriterAt B g l' wq ∧ Below B w wq ∧ WKeep g w wq)
  case atStart => exact ⟨n, l, rfl, rfl, hn, rfl, h, hb0, WKeep.refl _ _⟩
  case round =>
    clear h hb0 hn
    obtain ⟨m, l', hk, rfl, hm, he, h, hb, hkp⟩ := hrel
    have hll : l'.length + (uintL m).length = l.length + (uintL n).length := by have := congrArg List.length he; simpa using this
    have hp := uintL_pos m
    obtain ⟨hB, A, c, hbk, hown, hne⟩ := h
    have hlt : g < wr.heap.size := (Array.getElem?_eq_some_iff.1 hbk).1
    have c0 : wr.cell? ⟨g, 0, none⟩ = some (.slice A l'.length c) := by simp [World.cell?, hbk]
    have hBr : B ≤ wr.heap.size := by omega
    have hmx : l'.length + 1 ≤ maxLen := by unfold maxLen; omega
    have hmy : (l'.length + 1) * 1 ≤ 140737488355328 := by omega
    have hone : ∀ x, ∀ u ∈ [Value.int .u8 x], u.oneCell' = true := by simp [Value.oneCell']
    have hown' := fun x => hown.alloc (.cells #[.int .u8 x] 5)
    have hrow : ∀ x, Row (wr.alloc (.cells #[.int .u8 x] 5)) (.slice (some ⟨wr.heap.size, 0, none⟩) 1 1) 1 1 [.int .u8 x] := fun x => Row.of_own (own_block (base := wr.heap.size) (heap_alloc_new wr _) (Nat.le_refl _) rfl (by decide))
    have hsz : ∀ x, B ≤ (wr.alloc (.cells #[.int .u8 x] 5)).heap.size := fun x => by rw [World.size_alloc]; omega
    have hbka : ∀ x, (wr.alloc (.cells #[.int .u8 x] 5)).heap[g]? = some (.cells #[.slice A l'.length c] 141 (0, 0)) := fun x => (heap_alloc_old wr _ hlt).trans hbk
    have H1 := Lib.hid hbka
    have HK := Lib.hid hk
    have HE := Lib.hid he
    clear hbk hbka hk he
    by_cases h128 : m < 128
    · have q : ¬((128 : Int) ≤ (m : Int)) := by omega
      have e256 : (m : Int) % 256 = m := by omega
      go_wp2_with (at_builtin; refine wpList_append_row rfl _ _ 27 rfl B 5 i0 (.int .u8 0) 1 1 Tryz.underlying27 hi0 hz0 hz1 hz2 rfl (by decide) (.slice A l'.length c) l'.length (cellsL l') rfl (hown' _) (.slice (some ⟨wr.heap.size, 0, none⟩) 1 1) 1 [.int .u8 _] rfl (hrow _) (hone _) hmx hmy (hsz _) ?_; intro A7 c7 w7 hown7 hgrow7 hat7; have hb7 := (hgrow7.block g (by rw [World.size_alloc]; omega) (fun e => hne e.symm)).trans (H1.out _); have d0 := Lib.cell_of_heap hb7 0; have f0 := Lib.frozen_of_heap hb7 0; clear hb7)
      go_ret
      have e1 : (l' ++ [m.toUInt8]).length = l'.length + 1 := by simp
      have e2 : cellsL (l' ++ [m.toUInt8]) = cellsL l' ++ [.int .u8 (m : Int)] := by simp [cellsL, toUInt8_toNat (show m < 256 by omega)]
      have hp := writer_put (m := l' ++ [m.toUInt8]) (A' := A7) (c' := c7) hB (H1.out _) hne hgrow7 (by rw [e1, e2]; exact hown7) (by rw [e1]; exact hat7)
      rw [e1] at hp
      refine ⟨rfl, ?_, ((hb.alloc hBr _).grown hgrow7 (hsz _) (fun k hk => ((hown' 0).lt k hk).1)).setCell hB _, (hkp.trans (WKeep.alloc g _ _ hlt)).trans (WKeep.put (H1.out _) hne hgrow7 hat7)⟩
      rw [← HE.out, uintL_small h128]
      exact hp
    · have q : (128 : Int) ≤ (m : Int) := by omega
      have ho : bits .or .u8 ((m : Int) % 256) 128 = ((m % 128 + 128 : Nat) : Int) := by rw [or_128 _ (by omega) (by omega)]; omega
      have hsh := uintL_shift h128
      go_wp2_with (at_builtin; refine wpList_append_row rfl _ _ 27 rfl B 5 i0 (.int .u8 0) 1 1 Tryz.underlying27 hi0 hz0 hz1 hz2 rfl (by decide) (.slice A l'.length c) l'.length (cellsL l') rfl (hown' _) (.slice (some ⟨wr.heap.size, 0, none⟩) 1 1) 1 [.int .u8 _] rfl (hrow _) (hone _) hmx hmy (hsz _) ?_; intro A7 c7 w7 hown7 hgrow7 hat7; have hb7 := (hgrow7.block g (by rw [World.size_alloc]; omega) (fun e => hne e.symm)).trans (H1.out _); have d0 := Lib.cell_of_heap hb7 0; have f0 := Lib.frozen_of_heap hb7 0; clear hb7)
      go_roundg ((uintL (m / 128)).length)
      case rel =>
        have e1 : (l' ++ [(m % 128 + 128).toUInt8]).length = l'.length + 1 := by simp
        have e2 : cellsL (l' ++ [(m % 128 + 128).toUInt8]) = cellsL l' ++ [.int .u8 ((m % 128 + 128 : Nat) : Int)] := by simp only [cellsL, List.map_append, List.map_cons, List.map_nil, toUInt8_toNat (show m % 128 + 128 < 256 by omega)]
        have hp := writer_put (m := l' ++ [(m % 128 + 128).toUInt8]) (A' := A7) (c' := c7) hB (H1.out _) hne hgrow7 (by rw [e1, e2]; first | exact hown7 | (rw [← ho]; exact hown7)) (by rw [e1]; exact hat7)
        rw [e1] at hp
        refine ⟨m / 128, _, rfl, by simp, by omega, ?_, hp, ((hb.alloc hBr _).grown hgrow7 (hsz _) (fun k hk => ((hown' 0).lt k hk).1)).setCell hB _, (hkp.trans (WKeep.alloc g _ _ hlt)).trans (WKeep.put (H1.out _) hne hgrow7 hat7)⟩
        rw [← HE.out, uintL_big h128]
        simp
      case measure => have := HK.out; omega

set_option maxRecDepth 100000 in
set_option maxHeartbeats 2000000 in
/-- Bytes lays bytes with their number ahead. -/
theorem bytes_any (B g : Nat) (l m : List UInt8) (v : Value) (w : World) (h : WriterAt B g l w) (hr : ∀ W, Below B w W → WKeep g w W → Row W v 1 m.length (cellsL m)) (hm : m.length ≤ 140737488355000) (hlen : l.length + ((uintL m.length).length + m.length) ≤ 140737488355328) :
    Calls Tryz.prog 36 #[.pointer (some ⟨g, 0, none⟩), v] w (WriterPost B g (l ++ (uintL m.length ++ m)) w) := by
  have cU := uint_any B g l m.length w h (by omega) (by omega)
  obtain ⟨A, c, rfl, _⟩ := (hr w (Below.refl _ _) (WKeep.refl _ _)).2
  go_enter Tryz.func36, Tryz.ntmps36
  go_wp2_with fail
  refine cU.mono ?_
  rintro e w1 ⟨rfl, h1, hb1, hk1⟩
  have hg1 : g < w1.heap.size := by
    obtain ⟨_, A1, c1, hbk, _⟩ := h1
    exact (Array.getElem?_eq_some_iff.1 hbk).1
  have cR := raw_any B g (l ++ uintL m.length) m (.slice A m.length c) w1 h1 (hr w1 hb1 hk1) (by rw [List.length_append]; omega) (by have := h1.1; omega)
  go_wp2_with fail
  refine cR.mono ?_
  rintro e w2 ⟨rfl, h2, hb2, hk2⟩
  go_wp2_with fail
  go_ret
  exact ⟨rfl, by rw [← List.append_assoc]; exact h2, hb1.trans hb2, hk1.trans hk2⟩

/-- New is a writer of nothing. -/
theorem new_any (w : World) : Calls Tryz.prog 35 #[] w fun e w' => e = .returned (.pointer (some ⟨w.heap.size, 0, none⟩)) ∧ WriterAt w.heap.size w.heap.size [] w' ∧ Below w.heap.size w w' := by
  go_enter Tryz.func35, Tryz.ntmps35
  go_wp2
  go_ret
  exact ⟨rfl, ⟨Nat.le_refl _, none, 0, heap_alloc_new w _, World.ownsRow_nil _ _ _ _, by simp [Value.ownBlock]⟩, below_alloc w _⟩

set_option maxRecDepth 100000 in
set_option maxHeartbeats 2000000 in
/-- Done are the bytes, in a row of their own. -/
theorem done_any (B g : Nat) (l : List UInt8) (w : World) (h : WriterAt B g l w) (hlen : l.length ≤ 140737488355328) :
    Calls Tryz.prog 37 #[.pointer (some ⟨g, 0, none⟩)] w fun e w' => ∃ A c, e = .returned (.slice A l.length c) ∧ Row w' (.slice A l.length c) 1 l.length (cellsL l) ∧ Below w.heap.size w w' := by
  obtain ⟨i0, hi0, hz0, hz1, hz2⟩ := info_parts infoU8w
  obtain ⟨hB, A, c, hbk, hown, hne⟩ := h
  have hlt : g < w.heap.size := (Array.getElem?_eq_some_iff.1 hbk).1
  have c0 : w.cell? ⟨g, 0, none⟩ = some (.slice A l.length c) := by simp [World.cell?, hbk]
  have hr : Row w (.slice A l.length c) 1 l.length (cellsL l) := Row.of_own hown
  have hmx : 0 + l.length ≤ maxLen := by unfold maxLen; omega
  have hmy : (0 + l.length) * 1 ≤ 140737488355328 := by omega
  clear hbk
  go_enter Tryz.func37, Tryz.ntmps37
  go_wp2_with (at_builtin; refine wpList_append_row rfl _ _ 27 rfl w.heap.size 5 i0 (.int .u8 0) 1 1 Tryz.underlying27 hi0 hz0 hz1 hz2 rfl (by decide) (.slice none 0 0) 0 [] rfl (World.ownsRow_nil _ _ _ _) (.slice A l.length c) l.length (cellsL l) rfl hr (cellsL_one l) hmx hmy (Nat.le_refl _) ?_; intro A7 c7 w7 hown7 hgrow7 hat7; simp only [Nat.zero_add, List.nil_append] at hown7)
  go_ret
  refine ⟨A7, c7, ?_, Row.of_own hown7, below_of_grown hgrow7⟩
  simp
end Go.Proofs.YteajgnoimbdkbaaGreatDoor
