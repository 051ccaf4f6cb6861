/- A message whose parts lie in rows of the call's own. -/
import Derived.Test.YteajgnoimbdkbaaGreatDoorRdText
import Derived.Test.YteajgnoimbdkbaaGreatDoorPut
import Derived.Deep.RegionLaw
import Derived.Deep.AppendLies
namespace Go.Proofs.YteajgnoimbdkbaaGreatDoor
open Go.RowKit

theorem infoStrT : (Tryz.prog.info? 9).map (fun i => (i.zero, i.size, i.bytes)) = some (some (.string ⟨#[]⟩), 1, 16) := by kernel_rfl
theorem infoIntT : (Tryz.prog.info? 3).map (fun i => (i.zero, i.size, i.bytes)) = some (some (.int .i64 0), 1, 8) := by kernel_rfl
theorem infoBtsT : (Tryz.prog.info? 27).map (fun i => (i.zero, i.size, i.bytes)) = some (some (.slice none 0 0), 1, 24) := by kernel_rfl
theorem infoMsgT : (Tryz.prog.info? 35).map (fun i => (i.zero, i.size, i.bytes)) = some (some (.agg #[.int .i64 0, .slice none 0 0, .slice none 0 0, .slice none 0 0]), 4, 80) := by kernel_rfl

theorem own_keepG {w w' : World} {B e s n g : Nat} {v : Value} {xs : List Value} (h : w.ownsRow B e s v n xs) (hg : w.grownBy w' (some g)) (hB : g < B) : w'.ownsRow B e s v n xs :=
  h.kept hg (by
    rcases hv : v.ownBlock with _ | k
    · exact .inl rfl
    · have := (h.lt k hv).1
      right
      intro e
      have := Option.some.inj e
      omega)
theorem own_other {w w' : World} {B B' e e' s s' n n' : Nat} {v v' : Value} {xs xs' : List Value} (h : w.ownsRow B e s v n xs) (h' : w.ownsRow B' e' s' v' n' xs') (hne : e ≠ e') (hg : w.grownBy w' v'.ownBlock) : w'.ownsRow B e s v n xs :=
  h.kept hg (by
    rcases h.2 with ⟨rfl, _⟩ | ⟨k, cap, cur, rfl, _, hk, _⟩
    · exact .inl rfl
    · right
      intro heq
      rcases h'.2 with ⟨rfl, _⟩ | ⟨k', cap', cur', rfl, _, hk', _⟩
      · simp [Value.ownBlock] at heq
      · simp only [Value.ownBlock, Option.some.injEq] at heq
        subst heq
        rw [hk] at hk'
        simp at hk'
        exact hne hk'.2)
theorem own_belowW {w w' : World} {B e s n : Nat} {v : Value} {xs : List Value} (h : w.ownsRow B e s v n xs) (hb : Below w.heap.size w w') : w'.ownsRow B e s v n xs :=
  h.kept (row := none) ⟨hb.os, hb.tape, hb.output, hb.size, fun k hk _ => hb.block k hk⟩ (by cases h : v.ownBlock <;> simp)

/-- Slices of bytes in rows of the call's own. -/
def OwnDatas (B : Nat) (w : World) (v : Value) (l : List (List UInt8)) : Prop := ∃ vs, w.ownsRow B 27 1 v l.length vs ∧ (∀ u ∈ vs, u.oneCell' = true) ∧ ∀ (j : Nat) (u : Value) (b : List UInt8), vs[j]? = some u → l[j]? = some b → w.ownsRow B 5 1 u b.length (cellsL b)
def OwnMsg (B : Nat) (w : World) (p : MsgV) (m : MsgD) : Prop := p.kind = m.kind ∧ w.ownsRow B 9 1 p.texts m.texts.length ((m.texts.map strOf).map Value.string) ∧ w.ownsRow B 3 1 p.ints m.ints.length (intsV m.ints) ∧ OwnDatas B w p.data m.data
theorem OwnDatas.keepG {B g : Nat} {w w' : World} {v : Value} {l : List (List UInt8)} (h : OwnDatas B w v l) (hg : w.grownBy w' (some g)) (hB : g < B) : OwnDatas B w' v l := by
  obtain ⟨vs, h1, h0, h2⟩ := h
  exact ⟨vs, own_keepG h1 hg hB, h0, fun j u b hu hb => own_keepG (h2 j u b hu hb) hg hB⟩
theorem OwnMsg.keepG {B g : Nat} {w w' : World} {p : MsgV} {m : MsgD} (h : OwnMsg B w p m) (hg : w.grownBy w' (some g)) (hB : g < B) : OwnMsg B w' p m :=
  ⟨h.1, own_keepG h.2.1 hg hB, own_keepG h.2.2.1 hg hB, h.2.2.2.keepG hg hB⟩
theorem OwnMsg.other {B B' e' s' n' : Nat} {w w' : World} {p : MsgV} {m : MsgD} {v' : Value} {xs' : List Value} (h : OwnMsg B w p m) (h' : w.ownsRow B' e' s' v' n' xs') (h1 : 9 ≠ e') (h2 : 3 ≠ e') (h3 : 27 ≠ e') (h4 : 5 ≠ e') (hg : w.grownBy w' v'.ownBlock) : OwnMsg B w' p m := by
  obtain ⟨vs, d1, d0, d2⟩ := h.2.2.2
  exact ⟨h.1, own_other h.2.1 h' h1 hg, own_other h.2.2.1 h' h2 hg, vs, own_other d1 h' h3 hg, d0, fun j u b hu hb => own_other (d2 j u b hu hb) h' h4 hg⟩
theorem OwnMsg.below {B : Nat} {w w' : World} {p : MsgV} {m : MsgD} (h : OwnMsg B w p m) (hb : Below w.heap.size w w') : OwnMsg B w' p m := by
  obtain ⟨vs, d1, d0, d2⟩ := h.2.2.2
  exact ⟨h.1, own_belowW h.2.1 hb, own_belowW h.2.2.1 hb, vs, own_belowW d1 hb, d0, fun j u b hu hb' => own_belowW (d2 j u b hu hb') hb⟩
theorem OwnMsg.at {B : Nat} {w : World} {p : MsgV} {m : MsgD} (h : OwnMsg B w p m) : MsgAt w p m := by
  obtain ⟨vs, d1, d0, d2⟩ := h.2.2.2
  exact ⟨h.1, Strs.of_own h.2.1 (by simp), Row.of_own h.2.2.1, vs, Row.of_own d1, d0, fun j u b hu hb => Row.of_own (d2 j u b hu hb)⟩
theorem ErrIs.grown {B : Nat} {w w' : World} {row : Option Nat} {d : Nat} {v : Value} {n : Int} (h : ErrIs B w d v n) (hg : w.grownBy w' row) (hr : ∀ k, row = some k → ∀ cs fz, w.heap[k]? ≠ some (.cells cs 120 fz)) : ErrIs B w' d v n := by
  induction h with
  | no n => exact .no n
  | fault d g cs v n hgB hc hv _ ih => exact .fault d g cs v n hgB ((hg.block g (Array.getElem?_eq_some_iff.1 hc).1 (fun e => hr g e.symm cs _ hc)).trans hc) hv ih
theorem IsErr.grown {w w' : World} {row : Option Nat} {v : Value} {n : Int} (h : IsErr w v n) (hg : w.grownBy w' row) (hr : ∀ k, row = some k → ∀ cs fz, w.heap[k]? ≠ some (.cells cs 120 fz)) : IsErr w' v n :=
  h.imp id fun ⟨h0, d, hd⟩ => ⟨h0, d, (hd.grown hg hr).mono hg.size⟩
theorem own_row_type {w : World} {B e s n : Nat} {v : Value} {xs : List Value} (h : w.ownsRow B e s v n xs) {t : TypeId} (hne : e ≠ t) : ∀ k, v.ownBlock = some k → ∀ cs fz, w.heap[k]? ≠ some (.cells cs t fz) := by
  intro k hk cs fz hc
  rcases h.2 with ⟨rfl, _⟩ | ⟨k', cap, cur, rfl, _, hk', _⟩
  · simp [Value.ownBlock] at hk
  · obtain rfl : k' = k := by simpa [Value.ownBlock] using hk
    rw [hk'] at hc
    simp at hc
    exact hne hc.2.1
/-- A reader stands while a row of the call's own grows. -/
theorem ReaderAt.other {B g B' e s n : Nat} {r : Rd} {w w' : World} {v : Value} {xs : List Value} (h : ReaderAt B g r w) (ho : w.ownsRow B' e s v n xs) (hB : B ≤ B') (hgB : g < B') (he : e ≠ 120) (hg : w.grownBy w' v.ownBlock) : ReaderAt B g r w' := by
  obtain ⟨hBg, rv, ev, h1, h2, h3, h4⟩ := h
  refine ⟨hBg, rv, ev, (hg.block g (Array.getElem?_eq_some_iff.1 h1).1 (fun e => ?_)).trans h1, ?_, h3.grown hg (own_row_type ho he), h4⟩
  · have := (ho.lt g e.symm).1
    omega
  · obtain ⟨hl, A, c, rfl, hc, hcell⟩ := h2
    refine ⟨hl, A, c, rfl, hc, fun h0 => ?_⟩
    obtain ⟨b, o, rfl, hlt, hce⟩ := hcell h0
    refine ⟨b, o, rfl, Nat.lt_of_lt_of_le hlt hg.size, fun j u hj => ?_⟩
    have hbB := h4 b o c rfl h0
    exact (World.cell?_of_block (a := ⟨b, o + j, none⟩) (hg.block b hlt (fun e => by have := (ho.lt b e.symm).1; have := hB; omega))).trans (hce j u hj)
/-- .. and while a cell of another block is stored. -/
theorem ReaderAt.stored {B g k i : Nat} {r : Rd} {w : World} {u : Value} {cs : Array Value} {t : TypeId} {fz : Nat × Nat} (h : ReaderAt B g r w) (hk : w.heap[k]? = some (.cells cs t fz)) (hB : B ≤ k) (hne : k ≠ g) (ht : t ≠ 120) : ReaderAt B g r (w.setCell ⟨k, i, none⟩ u) := by
  obtain ⟨hBg, rv, ev, h1, h2, h3, h4⟩ := h
  refine ⟨hBg, rv, ev, (Below.heap_setCell w ⟨k, i, none⟩ u g (fun e => hne e.symm)).trans h1, Row.set h2 u (fun bb o c e h0 => ?_), h3.set (fun cs' fz' e => ?_) u, h4⟩
  · have := h4 bb o c e h0
    simp; omega
  · rw [hk] at e
    simp at e
    exact ht e.2.1
theorem box_stored {w : World} {k i : Nat} {u : Value} {cs cs' : Array Value} {t : TypeId} {fz : Nat × Nat} (hk : w.heap[k]? = some (.cells cs t fz)) (he : cs.setIfInBounds i u = cs') : (w.setCell ⟨k, i, none⟩ u).heap[k]? = some (.cells cs' t fz) := by
  subst he
  simp only [World.setCell, Array.getElem?_modify, hk]
  simp
theorem own_stored {w : World} {B e s n k i : Nat} {v u : Value} {xs : List Value} (h : w.ownsRow B e s v n xs) (hk : k < B) : (w.setCell ⟨k, i, none⟩ u).ownsRow B e s v n xs := ownsRow_setCell_below h hk u
theorem OwnMsg.stored {B k i : Nat} {w : World} {p : MsgV} {m : MsgD} {u : Value} (h : OwnMsg B w p m) (hk : k < B) : OwnMsg B (w.setCell ⟨k, i, none⟩ u) p m := by
  obtain ⟨vs, d1, d0, d2⟩ := h.2.2.2
  exact ⟨h.1, own_stored h.2.1 hk, own_stored h.2.2.1 hk, vs, own_stored d1 hk, d0, fun j u b hu hb' => own_stored (d2 j u b hu hb') hk⟩
theorem OwnMsg.mono {B B' : Nat} {w : World} {p : MsgV} {m : MsgD} (h : OwnMsg B w p m) (hB : B' ≤ B) : OwnMsg B' w p m := by
  obtain ⟨vs, d1, d0, d2⟩ := h.2.2.2
  exact ⟨h.1, World.ownsRow.mono h.2.1 hB, World.ownsRow.mono h.2.2.1 hB, vs, World.ownsRow.mono d1 hB, d0, fun j u b hu hb' => World.ownsRow.mono (d2 j u b hu hb') hB⟩
theorem grown_sets {w0 w : World} {g k : Nat} (hk : w0.heap.size = k) (h : w0.grownBy w (some g)) (i : Nat) (u : Value) : w0.grownBy (w.setCell ⟨k, i, none⟩ u) (some g) :=
  ⟨h.os, h.tape, h.output, by simpa [World.setCell] using h.size, fun q hq hne => (Below.heap_setCell w ⟨k, i, none⟩ u q (by simp; omega)).trans (h.block q hq hne)⟩
theorem rdMany_len {α : Type} (f : Rd → α × Rd) (hf : ∀ r, (f r).2.b.length ≤ r.b.length) : ∀ (n : Nat) (r : Rd), (rdMany f n r).2.b.length ≤ r.b.length
  | 0, _ => Nat.le_refl _
  | n + 1, r => by
    have h1 := rdMany_len f hf n (f r).2
    have h2 := hf r
    simp only [rdMany]
    omega
theorem rdUint_most (r : Rd) (most : Nat) : (rdUint r most).1 ≤ most := by
  unfold rdUint
  split
  · exact Nat.zero_le _
  · split
    · exact Nat.zero_le _
    · split
      · exact Nat.zero_le _
      · simp only; omega
theorem rdInt_len (r : Rd) : (rdInt r).2.b.length ≤ r.b.length := (rdUint_lt r _).2
theorem zagF_ok {u : Nat} (h : u < 18446744073709551616) : IntOk (zagF u) := by
  unfold IntOk zagF
  split <;> omega
theorem rdInt_ok (r : Rd) : IntOk (rdInt r).1 := zagF_ok (rdUint_lt r _).1
theorem rdCount_len (r : Rd) (most : Nat) : (rdCount r most).2.b.length ≤ r.b.length ∧ (rdCount r most).1 ≤ most := by
  have h1 := rdUint_lt r most
  have h2 := rdUint_most r most
  unfold rdCount
  split
  · exact ⟨Nat.le_refl _, Nat.zero_le _⟩
  · split
    · exact ⟨h1.2, Nat.zero_le _⟩
    · split
      · exact ⟨Nat.le_refl _, Nat.zero_le _⟩
      · exact ⟨h1.2, h2⟩
theorem rdBytes_len (r : Rd) (most : Nat) : (rdBytes r most).2.b.length ≤ r.b.length ∧ (rdBytes r most).1.length ≤ most := by
  have h1 := rdUint_lt r 18446744073709551615
  unfold rdBytes
  split
  · exact ⟨Nat.le_refl _, Nat.zero_le _⟩
  · split
    · exact ⟨h1.2, Nat.zero_le _⟩
    · split
      · exact ⟨Nat.le_refl _, Nat.zero_le _⟩
      · split
        · exact ⟨Nat.le_refl _, Nat.zero_le _⟩
        · refine ⟨?_, ?_⟩
          · simp only [List.length_drop]; omega
          · simp only [List.length_take]; omega
/-- A message's box. -/
theorem box_keepG {w w' : World} {k g : Nat} {o : Obj} (h : w.heap[k]? = some o) (hg : w.grownBy w' (some g)) (hne : k ≠ g) : w'.heap[k]? = some o :=
  (hg.block k (Array.getElem?_eq_some_iff.1 h).1 (by simpa using hne)).trans h
theorem rdMany_step {α : Type} (f : Rd → α × Rd) {n i : Nat} {r0 r : Rd} {l : List α} (hi : i < n) (h : rdMany f n r0 = (l ++ (rdMany f (n - i) r).1, (rdMany f (n - i) r).2)) :
    rdMany f n r0 = ((l ++ [(f r).1]) ++ (rdMany f (n - (i + 1)) (f r).2).1, (rdMany f (n - (i + 1)) (f r).2).2) := by
  obtain ⟨k, hk⟩ : ∃ k, n - i = k + 1 := ⟨n - i - 1, by omega⟩
  rw [h, hk, show n - (i + 1) = k by omega]
  simp [rdMany]
theorem rdMany_stop {α : Type} (f : Rd → α × Rd) {n i : Nat} {r0 r : Rd} {l : List α} (hi : n ≤ i) (h : rdMany f n r0 = (l ++ (rdMany f (n - i) r).1, (rdMany f (n - i) r).2)) : rdMany f n r0 = (l, r) := by
  rw [h, show n - i = 0 by omega]
  simp [rdMany]
end Go.Proofs.YteajgnoimbdkbaaGreatDoor
