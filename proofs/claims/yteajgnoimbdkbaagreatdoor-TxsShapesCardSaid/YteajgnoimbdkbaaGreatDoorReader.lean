/- pack.Reader: what it is in memory; Read, live, fail, Err, Done. -/
import Derived.Test.YteajgnoimbdkbaaGreatDoorTxRep
import Derived.BigQuiet
namespace Go.Proofs.YteajgnoimbdkbaaGreatDoor
open Go.RowKit

/-- A slice's cells lie below block B. -/
def Low (B n : Nat) (v : Value) : Prop := ∀ bb o c, v = .slice (some ⟨bb, o, none⟩) n c → 0 < n → bb < B
/-- A reader in block g (from B on), of bytes below B. -/
def ReaderAt (B g : Nat) (r : Rd) (w : World) : Prop := B ≤ g ∧ ∃ v ev, w.heap[g]? = some (.cells #[v, ev] 147 (0, 0)) ∧ Bts w v r.b ∧ IsErr w ev r.err ∧ Low B r.b.length v
theorem ReaderAt.lt {B g : Nat} {r : Rd} {w : World} (h : ReaderAt B g r w) : B ≤ g ∧ g < w.heap.size := ⟨h.1, by obtain ⟨_, _, _, hb, _⟩ := h; exact (Array.getElem?_eq_some_iff.1 hb).1⟩
theorem ReaderAt.keep {B g : Nat} {r : Rd} {w w' : World} (h : ReaderAt B g r w) (hb : Below w.heap.size w w') : ReaderAt B g r w' := by
  obtain ⟨hB, v, ev, h1, h2, h3, h4⟩ := h
  exact ⟨hB, v, ev, (hb.block g (Array.getElem?_eq_some_iff.1 h1).1).trans h1, h2.keep hb, h3.keep hb, h4⟩

/-- A store into the reader leaves bytes and errors that lie elsewhere. -/
theorem Row.set {w : World} {v : Value} {size n : Nat} {xs : List Value} (h : Row w v size n xs) {p : Addr} (u : Value) (hp : ∀ b o c, v = .slice (some ⟨b, o, none⟩) n c → 0 < n → b ≠ p.block) : Row (w.setCell p u) v size n xs := by
  obtain ⟨hl, A, c, rfl, hc, h⟩ := h
  refine ⟨hl, A, c, rfl, hc, fun h0 => ?_⟩
  obtain ⟨b, o, rfl, hlt, hcell⟩ := h h0
  refine ⟨b, o, rfl, by simpa [World.setCell] using hlt, fun j s hj => ?_⟩
  rw [cell_set (by have := hp b o c rfl h0; simpa using fun e => this e.symm)]
  exact hcell j s hj
/-- Bytes lie in no block whose cells are no bytes. -/
theorem Bts.off {w : World} {v : Value} {b : List UInt8} (h : Bts w v b) {g : Nat} {cs : Array Value} {t : TypeId} {fz : Nat × Nat} (hg : w.heap[g]? = some (.cells cs t fz)) (hno : ∀ u ∈ cs.toList, ∀ x, u ≠ .int .u8 x) : ∀ bb o c, v = .slice (some ⟨bb, o, none⟩) b.length c → 0 < b.length → bb ≠ g := by
  rintro bb o c rfl h0 rfl
  obtain ⟨_, A, c', e, _, h⟩ := h
  obtain ⟨b2, o2, rfl, _, hcell⟩ := h h0
  obtain ⟨rfl, rfl⟩ : bb = b2 ∧ o = o2 := by simpa using (Value.slice.inj e).1
  have hx : (cellsL b)[0]? = some (.int .u8 (b[0].toNat : Int)) := by simp [cellsL, List.getElem?_eq_getElem h0]
  have := hcell 0 _ hx
  simp only [World.cell?, hg] at this
  exact hno _ (Array.mem_toList_iff.2 (Array.mem_of_getElem? this)) _ rfl
theorem reader_put {B g : Nat} {r : Rd} {w : World} {v ev : Value} (hB : B ≤ g) (hbk : w.heap[g]? = some (.cells #[v, ev] 147 (0, 0))) {v' ev' : Value} {i : Nat} {u : Value}
    (hcs : (#[v, ev] : Array Value).setIfInBounds i u = #[v', ev']) (h1 : Bts w v' r.b) (h2 : IsErr w ev' r.err) (hno : ∀ x ∈ [v, ev], ∀ y, x ≠ .int .u8 y) (hlow : Low B r.b.length v') : ReaderAt B g r (w.setCell ⟨g, i, none⟩ u) := by
  have hh : (w.setCell ⟨g, i, none⟩ u).heap[g]? = some (.cells #[v', ev'] 147 (0, 0)) := by
    simp only [World.setCell, Array.getElem?_modify, hbk]
    simp [hcs]
  exact ⟨hB, v', ev', hh, h1.set u (h1.off hbk hno), h2.set (by intro cs fz; rw [hbk]; simp) u, hlow⟩

/-- What a reader's method leaves. -/
def RdPost (B g : Nat) (r : Rd) (w : World) (v : Value) (e : Ending) (w' : World) : Prop := e = .returned v ∧ ReaderAt B g r w' ∧ w.grownBy w' (some g)

/-- Read is a reader of bytes. -/
theorem read_any (v : Value) (b : List UInt8) (w : World) (h : Bts w v b) : Calls Tryz.prog 44 #[v] w fun e w' => e = .returned (.pointer (some ⟨w.heap.size, 0, none⟩)) ∧ ReaderAt w.heap.size w.heap.size ⟨b, 0⟩ w' ∧ Below w.heap.size w w' := by
  have h' := fun o => h.keep (below_alloc w o)
  have hlow : Low w.heap.size b.length v := fun bb o c e h0 => by
    obtain ⟨b2, o2, c2, e2, _, hlt, _⟩ := Row.cell h h0
    rw [e] at e2
    have : bb = b2 := by simpa [Value.ownBlock] using congrArg Value.ownBlock e2
    omega
  obtain ⟨A, c, rfl⟩ := h.form
  go_enter Tryz.func44, Tryz.ntmps44
  go_wp2
  go_ret
  exact ⟨rfl, ⟨Nat.le_refl _, _, _, heap_alloc_new w _, h' _, IsErr.nil_ _, hlow⟩, below_alloc w _⟩

theorem ReaderAt.cells {B g : Nat} {r : Rd} {w : World} (h : ReaderAt B g r w) : ∃ A c ev, w.heap[g]? = some (.cells #[.slice A r.b.length c, ev] 147 (0, 0)) ∧ w.cell? ⟨g, 0, none⟩ = some (.slice A r.b.length c) ∧ w.cell? ⟨g, 1, none⟩ = some ev ∧ (∀ o, w.frozen? ⟨g, o, none⟩ = false) ∧ Bts w (.slice A r.b.length c) r.b ∧ IsErr w ev r.err ∧ Low B r.b.length (.slice A r.b.length c) := by
  obtain ⟨hB, v, ev, h1, h2, h3, h4⟩ := h
  obtain ⟨A, c, rfl⟩ := h2.form
  exact ⟨A, c, ev, h1, by simp [World.cell?, h1], by simp [World.cell?, h1], fun o => Lib.frozen_of_heap h1 o, h2, h3, h4⟩

theorem live_yes (B g : Nat) (r : Rd) (w : World) (h : ReaderAt B g r w) (h0 : r.err = 0) : Calls Tryz.prog 80 #[.pointer (some ⟨g, 0, none⟩)] w fun e w' => e = .returned (.bool true) ∧ w' = w := by
  obtain ⟨A, c, ev, _, c0, c1, _, _, hE, _⟩ := h.cells
  rw [h0] at hE
  obtain rfl := hE.zero
  clear h0
  go_enter Tryz.func80, Tryz.ntmps80
  go_wp2
  go_ret
  exact ⟨rfl, rfl⟩
theorem live_no (B g : Nat) (r : Rd) (w : World) (h : ReaderAt B g r w) (h0 : r.err ≠ 0) : Calls Tryz.prog 80 #[.pointer (some ⟨g, 0, none⟩)] w fun e w' => e = .returned (.bool false) ∧ w' = w := by
  obtain ⟨A, c, ev, _, c0, c1, _, _, hE, _⟩ := h.cells
  obtain ⟨t, x, rfl⟩ := hE.iface h0
  go_enter Tryz.func80, Tryz.ntmps80
  go_wp2
  go_ret
  exact ⟨rfl, rfl⟩

/-- fail stops the reader, at the first error alone. -/
theorem fail_yes (B g : Nat) (r : Rd) (s : ByteArray) (n : Int) (w : World) (h : ReaderAt B g r w) (h0 : r.err = 0) (hn : n ≠ 0) : Calls Tryz.prog 81 #[.pointer (some ⟨g, 0, none⟩), .string s, .int .i64 n] w (RdPost B g ⟨r.b, n⟩ w (.tuple #[])) := by
  have hlt := h.lt
  obtain ⟨A, c, ev, hbk, c0, c1, fz, hb, hE, hlow⟩ := h.cells
  rw [h0] at hE
  obtain rfl := hE.zero
  have hg : ∀ o u, w.grownBy ((w.setCell ⟨g, 1, none⟩ u).alloc o) (some g) := fun o u => ⟨rfl, rfl, rfl, by simp [World.setCell], fun k hk hne => (heap_alloc_old _ o (by simpa [World.setCell] using hk)).trans (Below.heap_setCell _ ⟨g, 1, none⟩ _ k (fun e => hne (by rw [e])))⟩
  have hoff := hb.off hbk (by intro u hu x; simp at hu; rcases hu with rfl | rfl <;> simp)
  have hb' := fun u o => (Row.set hb (p := ⟨g, 1, none⟩) u hoff).keep (below_alloc _ o)
  have hh : ∀ u o, ((w.setCell ⟨g, 1, none⟩ u).alloc o).heap[g]? = some (.cells #[.slice A r.b.length c, u] 147 (0, 0)) := fun u o => by
    rw [heap_alloc_old _ o (by simpa [World.setCell] using hlt.2)]
    simp only [World.setCell, Array.getElem?_modify, hbk]
    simp
  have H0 := Lib.hid h0
  have HH := Lib.hid hh
  clear h0 hbk hh
  go_enter Tryz.func81, Tryz.ntmps81
  go_wp2
  go_end0
  exact ⟨rfl, ⟨hlt.1, _, _, HH.out _ _, hb' _ _, IsErr.fault hn rfl (by simp [World.setCell]), hlow⟩, hg _ _⟩
theorem fail_no (B g : Nat) (r : Rd) (s : ByteArray) (n : Int) (w : World) (h : ReaderAt B g r w) (h0 : r.err ≠ 0) : Calls Tryz.prog 81 #[.pointer (some ⟨g, 0, none⟩), .string s, .int .i64 n] w fun e w' => e = .returned (.tuple #[]) ∧ w' = w := by
  obtain ⟨A, c, ev, _, c0, c1, _, _, hE, _⟩ := h.cells
  obtain ⟨t, x, rfl⟩ := hE.iface h0
  go_enter Tryz.func81, Tryz.ntmps81
  go_wp2
  go_end0
  exact ⟨rfl, rfl⟩

/-- Done is the first error, or that bytes are left. -/
def doneN (r : Rd) : Int := if r.err = 0 ∧ 0 < r.b.length then 3 else r.err
def ErrPost (n : Int) (w : World) (e : Ending) (w' : World) : Prop := ∃ ev, e = .returned ev ∧ IsErr w' ev n ∧ Below w.heap.size w w'
theorem err_any (B g : Nat) (r : Rd) (w : World) (h : ReaderAt B g r w) : Calls Tryz.prog 83 #[.pointer (some ⟨g, 0, none⟩)] w (ErrPost r.err w) := by
  obtain ⟨A, c, ev, _, c0, c1, _, _, hE, _⟩ := h.cells
  go_enter Tryz.func83, Tryz.ntmps83
  go_wp2
  go_ret
  exact ⟨_, rfl, hE, Below.refl _ _⟩
theorem rdone_any (B g : Nat) (r : Rd) (w : World) (h : ReaderAt B g r w) (hl : r.b.length ≤ 140737488355328) : Calls Tryz.prog 50 #[.pointer (some ⟨g, 0, none⟩)] w (ErrPost (doneN r) w) := by
  have cE := err_any B g r w h
  obtain ⟨A, c, ev, _, c0, c1, _, _, hE, _⟩ := h.cells
  by_cases h0 : r.err = 0
  · have cL := live_yes B g r w h h0
    by_cases hp : 0 < r.b.length
    · have HD : Hid (doneN r = 3) := Lib.hid (by simp [doneN, h0, hp])
      have hp2 : (0 : Int) < (r.b.length : Int) := by omega
      clear h0 hp
      go_enter Tryz.func50, Tryz.ntmps50
      go_wp2_with fail
      refine cL.mono ?_
      rintro e w1 ⟨rfl, rfl⟩
      go_wp2_with fail
      go_ret
      exact ⟨_, rfl, by rw [HD.out]; exact IsErr.fault (by decide) rfl rfl, below_alloc _ _⟩
    · have HD : Hid (doneN r = r.err) := Lib.hid (by simp [doneN, hp])
      have hp2 : decide (0 < r.b.length) = false := by simpa using hp
      clear h0 hp
      go_enter Tryz.func50, Tryz.ntmps50
      go_wp2_with fail
      refine cL.mono ?_
      rintro e w1 ⟨rfl, rfl⟩
      go_wp2_with fail
      refine cE.mono ?_
      rintro e w2 ⟨ev2, rfl, hE2, hb2⟩
      go_wp2_with fail
      go_ret
      exact ⟨_, rfl, by rw [HD.out]; exact hE2, hb2⟩
  · have cL := live_no B g r w h h0
    have HD : Hid (doneN r = r.err) := Lib.hid (by simp [doneN, h0])
    go_enter Tryz.func50, Tryz.ntmps50
    go_wp2_with fail
    refine cL.mono ?_
    rintro e w1 ⟨rfl, rfl⟩
    go_wp2_with fail
    refine cE.mono ?_
    rintro e w2 ⟨ev2, rfl, hE2, hb2⟩
    go_wp2_with fail
    go_ret
    exact ⟨_, rfl, by rw [HD.out]; exact hE2, hb2⟩
end Go.Proofs.YteajgnoimbdkbaaGreatDoor
